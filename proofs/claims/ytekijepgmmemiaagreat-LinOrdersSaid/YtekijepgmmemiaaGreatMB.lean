/- Own text of this claim: an abstract machine over the given program form, and what follows from it. No condition. -/
import Derived.Test.YtekijepgmmemiaaGreatMA
set_option linter.unusedVariables false
set_option linter.unusedSimpArgs false
set_option maxHeartbeats 1000000
namespace Go.Gar
open Go Go.EV
noncomputable section
/-! histories: which may be -/
/-- the last of the first n that is of a core; -1: there is none -/
def ofL (S : Nat → Span) (c : Int) : Nat → Int
  | 0 => -1
  | n + 1 => bif (S n).core == c then (n : Int) else ofL S c n
theorem ofL_rng {S : Nat → Span} {c : Int} : ∀ {n : Nat}, ofL S c n = -1 ∨ 0 ≤ ofL S c n ∧ ofL S c n < n
  | 0 => .inl rfl
  | n + 1 => by
    unfold ofL
    cases (S n).core == c with
    | true => exact .inr ⟨by simp only [cond_true]; omega, by simp only [cond_true]; omega⟩
    | false =>
      rcases ofL_rng (S := S) (c := c) (n := n) with h | h
      · exact .inl h
      · exact .inr ⟨h.1, by simp only [cond_false]; omega⟩
def y112 : Hy := hy [(112, [9, 18, 23, 20])] [(112, [(3, [0, 1, 5])])] [] []
def S112 (n : Nat) (S : Nat → Span) (fl : Bool) (c a : Int) : AM := hd 112 25 [(0, lsS n S fl), (1, i c), (5, i a)] (tdo Pr 112 0) []
theorem e112 (n : Nat) (S : Nat → Span) (fl : Bool) (c : Int) : symF Pr noU y112 65 (stt Pr 112 [lsS n S fl, i c]) = .ck True (.leaf (.to (S112 n S fl c n))) := by kernel_rfl
theorem t112 (n : Nat) (S : Nat → Span) (fl : Bool) (c : Int) (j : Nat) : symF Pr noU y112 143 (S112 n S fl c j) =
  (.br (decide ((j : Int) > 0))
    (.cki (0 ≤ W ((j : Int) - 1) ∧ W ((j : Int) - 1) < (n : Int))
    (.br ((S (W ((j : Int) - 1)).toNat).core == c)
      (.br ((n : Int) == 0)
        (.leaf (.fin (i (-1))))
        (.leaf (.fin (i (W ((j : Int) - 1))))))
      (.br (W ((j : Int) - 1) == 0)
        (.leaf (.fin (i (-1))))
        (.ck True (.leaf (.to (S112 n S fl c (W ((j : Int) - 1)))))))))
    (.br ((n : Int) == 0)
      (.leaf (.fin (i (-1))))
      (.leaf (.fin (i (j : Int)))))) := by kernel_rfl
theorem l112 {n : Nat} {S : Nat → Span} {fl : Bool} {c : Int} (hn : n ≤ 1000000) : ∀ j, 0 < j → j ≤ n → EndsF Pr (S112 n S fl c (j : Int)) (· = i (ofL S c j))
  | 0, h, _ => by omega
  | j + 1, _, hj => by
    have hW : W (((j + 1 : Nat) : Int) - 1) = (j : Int) := W_pred hj hn
    refine endsF_of G0 (t112 n S fl c (j + 1)) ?_
    rw [hW]
    refine ⟨fun _ => ⟨by omega, fun h => ⟨fun h0 => ?_, fun _ => ?_⟩, fun h => ⟨fun h0 => ?_, fun h0 => ⟨trivial, ?_⟩⟩⟩, fun h => ?_⟩
    · simp at h0; omega
    · show i j = i (bif (S j).core == c then (j : Int) else ofL S c j)
      rw [Int.toNat_natCast] at h
      rw [h]; rfl
    · rw [Int.toNat_natCast] at h
      show i (-1) = i (bif (S j).core == c then (j : Int) else ofL S c j)
      rw [h]
      simp at h0
      subst h0; rfl
    · rw [Int.toNat_natCast] at h
      have h0 : ¬ (j : Int) = 0 := by simpa using h0
      have := l112 (S := S) (fl := fl) (c := c) hn j (by omega) (by omega)
      show EndsF Pr (S112 n S fl c (j : Int)) (· = i (bif (S j).core == c then (j : Int) else ofL S c j))
      rw [h]; exact this
    · simp at h
theorem c112' {n : Nat} {S : Nat → Span} {fl : Bool} {c : Int} (hn : n ≤ 1000000) : FnCall Pr 112 [lsS n S fl, i c] (i (ofL S c n)) := by
  refine fn_of_fin G0 (by kernel_rfl) (e112 n S fl c) ⟨trivial, ?_⟩
  rcases Nat.eq_zero_or_pos n with h | h
  · subst h
    refine endsF_of G0 (t112 0 S fl c 0) ⟨fun h => ?_, fun _ => ⟨fun _ => rfl, fun h => ?_⟩⟩
    · simp at h
    · simp at h
  · exact l112 hn n h (Nat.le_refl _)
def F112 : List AV → Option (T AV)
  | [.ls n f 15 fl, .int .i64 c] => some (.ck (n ≤ 1000000 ∧ IsE n f eSpan dSpan) (.leaf (i (ofL (fun k => dSpan (f k)) c n))))
  | _ => none
theorem c112 : FnSpec Pr 112 F112 := by
  intro a t h
  unfold F112 at h
  split at h
  · rename_i n f fl c
    simp only [Option.some.injEq] at h; subst h
    rintro v ⟨⟨hn, hf⟩, hs⟩
    have hs : _ = v := hs
    subst hs
    exact FnCall_args (likes_ls hf (fun h => h)) (c112' hn)
  · cases h
def U38 : USum := addV noU 112 F112
theorem G38 : GoodU Pr U38 := G0.addV c112
def zRep (r : Reply) : Bool := r.code == 0 && (r.value == 0 && (r.badge == 0 && (r.cap == false && true)))
def y38 : Hy := hy [(111, [4]), (38, [10, 14, 19, 25, 31, 36, 42, 52, 59]), (29, [7])] [] [] []
section
variable (n : Nat) (S : Nat → Span) (fl : Bool) (s : Span)
def A38a : T Lv :=
  (.ck (n ≤ 1000000 ∧ IsE n (fun k => eSpan (S k)) eSpan dSpan)
  (.br (decide (ofL (fun k => dSpan (eSpan (S k))) s.core n < 0))
   (.leaf (.fin (.bool (true))))
   (.cki (0 ≤ ofL (fun k => dSpan (eSpan (S k))) s.core n ∧ ofL (fun k => dSpan (eSpan (S k))) s.core n < (n : Int))
   (.br ((S (ofL (fun k => dSpan (eSpan (S k))) s.core n).toNat).stop != 0)
    (.leaf (.fin (.bool (decide ((S (ofL (fun k => dSpan (eSpan (S k))) s.core n).toNat).stop < s.start)))))
    (.leaf (.fin (.bool (false))))))))
def A38b : T Lv :=
  (.br (decide ((n : Int) > 0))
   (.cki (0 ≤ W ((n : Int) - 1) ∧ W ((n : Int) - 1) < (n : Int))
   (.br (decide (s.start < (S (W ((n : Int) - 1)).toNat).start))
    (.leaf (.fin (.bool (false))))
    (A38a n S s)))
   (A38a n S s))
def A38c : T Lv :=
  (.br (s.stop == 0)
   (.br (!zRep s.reply)
    (.leaf (.fin (.bool (false))))
    (A38b n S s))
   (A38b n S s))
def A38d : T Lv :=
  (.br (decide (s.start < 1))
   (.leaf (.fin (.bool (false))))
   (.br (s.stop != 0)
    (.br (decide (s.stop < s.start))
     (.leaf (.fin (.bool (false))))
     (A38c n S s))
    (A38c n S s)))
def T38 : T Lv :=
  (.br (decide (s.core ≥ 0))
   (.br (!decide (s.core < 64))
    (.leaf (.fin (.bool (false))))
    (A38d n S s))
   (.br (!false)
    (.leaf (.fin (.bool (false))))
    (A38d n S s)))
theorem t38 : symF Pr U38 y38 1205 (stt Pr 38 [.agg (eSpan s), lsS n S fl]) = T38 n S s := by kernel_rfl
/-- may a span be, behind the first n? -/
def spOk : Bool := (T38 n S s).valV gb
end
theorem c38' {n : Nat} {S : Nat → Span} {fl : Bool} {s : Span} (hn : n ≤ 1000000) : FnCall Pr 38 [.agg (eSpan s), lsS n S fl] (.bool (spOk n S s)) := by
  refine fn_of_fin G38 (by kernel_rfl) (t38 n S fl s) (T.okV_wp (enc := .bool) (dec := gb) ?_ rfl)
  have hr := ofL_rng (S := S) (c := s.core) (n := n)
  have hE : IsE n (fun k => eSpan (S k)) eSpan dSpan := isE_of d_eSpan
  have hW : 0 < n → W ((n : Int) - 1) = ((n - 1 : Nat) : Int) := fun h => by rw [W_in _ (by omega)]; omega
  have ha : (A38a n S s).OkV .bool gb := by
    refine T.okV_ck ⟨hn, hE⟩ (T.okV_br (fun _ => T.okV_leaf rfl) fun h => T.okV_cd ?_ (T.okV_br (fun _ => T.okV_leaf rfl) fun _ => T.okV_leaf rfl))
    have h : decide (ofL S s.core n < 0) = false := h
    show 0 ≤ ofL S s.core n ∧ ofL S s.core n < (n : Int)
    simp only [decide_eq_false_iff_not] at h
    omega
  have hb : (A38b n S s).OkV .bool gb := by
    refine T.okV_br (fun h => T.okV_cd ?_ (T.okV_br (fun _ => T.okV_leaf rfl) fun _ => ha)) fun _ => ha
    simp only [decide_eq_true_eq] at h
    rw [hW (by omega)]; omega
  have hc : (A38c n S s).OkV .bool gb := T.okV_br (fun _ => T.okV_br (fun _ => T.okV_leaf rfl) fun _ => hb) fun _ => hb
  have hd : (A38d n S s).OkV .bool gb := T.okV_br (fun _ => T.okV_leaf rfl) fun _ => T.okV_br (fun _ => T.okV_br (fun _ => T.okV_leaf rfl) fun _ => hc) fun _ => hc
  exact T.okV_br (fun _ => T.okV_br (fun _ => T.okV_leaf rfl) fun _ => hd) fun _ => T.okV_br (fun _ => T.okV_leaf rfl) fun _ => hd
def F38 : List AV → Option (T AV)
  | [.agg s, .ls n f 15 fl] => some (.ck (n ≤ 1000000 ∧ s = eSpan (dSpan s) ∧ IsE n f eSpan dSpan) (.leaf (.bool (spOk n (fun k => dSpan (f k)) (dSpan s)))))
  | _ => none
theorem c38 : FnSpec Pr 38 F38 := by
  intro a t h
  unfold F38 at h
  split at h
  · rename_i s n f fl
    simp only [Option.some.injEq] at h; subst h
    rintro v ⟨⟨hn, hs0, hf⟩, hs⟩
    have hs : _ = v := hs
    subst hs
    rw [hs0, d_eSpan]
    exact FnCall_args (likes_cons Like.rfl (likes_ls hf (fun h => h))) (c38' hn)
  · cases h
def y39 : Hy := hy [(39, [8, 12, 18, 23, 28]), (111, [4])] [] [] []
section
variable (n : Nat) (E : Nat → Event) (fl : Bool) (s : Event)
def A39 : T Lv :=
  (.br (decide (s.stamp < 1))
   (.leaf (.fin (.bool (false))))
   (.br ((n : Int) == 0)
    (.leaf (.fin (.bool (true))))
    (.cki (0 ≤ W ((n : Int) - 1) ∧ W ((n : Int) - 1) < (n : Int))
    (.leaf (.fin (.bool (decide (s.stamp > (E (W ((n : Int) - 1)).toNat).stamp))))))))
def T39 : T Lv :=
  (.br (decide (s.kind < 0))
    (.leaf (.fin (.bool (false))))
    (.br (decide (s.kind > 3))
      (.leaf (.fin (.bool (false))))
      (.br (decide (s.core ≥ 0))
        (.br (!decide (s.core < 64))
          (.leaf (.fin (.bool (false))))
          (A39 n E s))
        (.br (!false)
          (.leaf (.fin (.bool (false))))
          (A39 n E s)))))
theorem t39 : symF Pr noU y39 217 (stt Pr 39 [.agg (eEvent s), lsE n E fl]) = T39 n E s := by kernel_rfl
/-- may an event be, behind the first n? -/
def evOk : Bool := (T39 n E s).valV gb
end
theorem c39' {n : Nat} {E : Nat → Event} {fl : Bool} {s : Event} (hn : n ≤ 1000000) : FnCall Pr 39 [.agg (eEvent s), lsE n E fl] (.bool (evOk n E s)) := by
  refine fn_of_fin G0 (by kernel_rfl) (t39 n E fl s) (T.okV_wp (enc := .bool) (dec := gb) ?_ rfl)
  have ha : (A39 n E s).OkV .bool gb := by
    refine T.okV_br (fun _ => T.okV_leaf rfl) fun _ => T.okV_br (fun _ => T.okV_leaf rfl) fun h => T.okV_cd ?_ (T.okV_leaf rfl)
    have h : ¬ (n : Int) = 0 := by simpa using h
    rw [W_in _ (by omega)]; omega
  exact T.okV_br (fun _ => T.okV_leaf rfl) fun _ => T.okV_br (fun _ => T.okV_leaf rfl) fun _ => T.okV_br (fun _ => T.okV_br (fun _ => T.okV_leaf rfl) fun _ => ha) fun _ => T.okV_br (fun _ => T.okV_leaf rfl) fun _ => ha
def F39 : List AV → Option (T AV)
  | [.agg s, .ls n f 12 fl] => some (.ck (n ≤ 1000000 ∧ s = eEvent (dEvent s) ∧ IsE n f eEvent dEvent) (.leaf (.bool (evOk n (fun k => dEvent (f k)) (dEvent s)))))
  | _ => none
theorem c39 : FnSpec Pr 39 F39 := by
  intro a t h
  unfold F39 at h
  split at h
  · rename_i s n f fl
    simp only [Option.some.injEq] at h; subst h
    rintro v ⟨⟨hn, hs0, hf⟩, hs⟩
    have hs : _ = v := hs
    subst hs
    rw [hs0, d_eEvent]
    exact FnCall_args (likes_cons Like.rfl (likes_ls hf (fun h => h))) (c39' hn)
  · cases h
def U13 : USum := addV (addV noU 38 F38) 39 F39
theorem G13 : GoodU Pr U13 := (G0.addV c38).addV c39
/-- p holds of the first n -/
def allN (p : Nat → Bool) : Nat → Bool
  | 0 => true
  | n + 1 => allN p n && p n
theorem allN_iff {p : Nat → Bool} : ∀ {n : Nat}, allN p n = true ↔ ∀ k, k < n → p k = true
  | 0 => by simp [allN]
  | n + 1 => by
    simp only [allN, Bool.and_eq_true, allN_iff (n := n)]
    constructor
    · intro h k hk
      by_cases e : k = n
      · subst e; exact h.2
      · exact h.1 k (by omega)
    · intro h
      exact ⟨fun k hk => h k (by omega), h n (by omega)⟩
theorem allN_false {p : Nat → Bool} {n j : Nat} (hj : j < n) (h : p j = false) : allN p n = false := by
  cases hq : allN p n with
  | false => rfl
  | true => rw [allN_iff.mp hq j hj] at h; cases h
def histOk (n : Nat) (S : Nat → Span) (m : Nat) (E : Nat → Event) : Bool := allN (fun k => spOk k S (S k)) n && allN (fun k => evOk k E (E k)) m
def y13a : Hy := hy [(13, [11, 21])] [(13, [(2, [1, 8, 9, 10, 24, 25, 26])])] [] []
def y13b : Hy := hy [(13, [27, 37])] [(13, [(2, [1, 24, 25, 26])])] [] []
section
variable (n m : Nat) (S : Nat → Span) (E : Nat → Event) (fl fm : Bool)
def S13a (a : Int) : AM := hd 13 39 [(1, .ptr 8 0), (8, lsS n S fl), (9, i n), (10, i a)] (tdo Pr 13 0) [.row 2 [lsS n S fl, lsE m E fm] .nil]
def S13b (a : Int) : AM := hd 13 39 [(1, .ptr 8 0), (24, lsE m E fm), (25, i m), (26, i a)] (tdo Pr 13 1) [.row 2 [lsS n S fl, lsE m E fm] .nil]
def S13c (a : Int) : AM := hd 13 39 [(1, .ptr 8 0), (8, lsS n S fl), (9, i n), (10, i a), (24, lsE m E fm), (25, i m), (26, i 0)] (tdo Pr 13 1) [.row 2 [lsS n S fl, lsE m E fm] .nil]
theorem e13 : symF Pr U13 y13a 64 (stt Pr 13 [.agg [lsS n S fl, lsE m E fm]]) = .ck True (.leaf (.to (S13a n m S E fl fm 0))) := by kernel_rfl
theorem t13a (j : Nat) : symF Pr U13 y13a 113 (S13a n m S E fl fm j) =
  (.br (decide ((j : Int) < (n : Int)))
   (.cki (0 ≤ (j : Int) ∧ (j : Int) < (n : Int))
   (.cki (0 ≤ (j : Int) ∧ (j : Int) ≤ (n : Int))
   (.ck (j ≤ 1000000 ∧ eSpan (S j) = eSpan (dSpan (eSpan (S j))) ∧ IsE j (fun k => eSpan (S (addZ 0 k))) eSpan dSpan)
   (.br (!spOk j S (S j))
    (.leaf (.fin (i 180)))
    (.ck True (.leaf (.to (S13a n m S E fl fm (W ((j : Int) + 1))))))))))
   (.ck True (.leaf (.to (S13c n m S E fl fm j))))) := by kernel_rfl
theorem t13b (j : Nat) : symF Pr U13 y13b 109 (S13b n m S E fl fm j) =
  (.br (decide ((j : Int) < (m : Int)))
   (.cki (0 ≤ (j : Int) ∧ (j : Int) < (m : Int))
   (.cki (0 ≤ (j : Int) ∧ (j : Int) ≤ (m : Int))
   (.ck (j ≤ 1000000 ∧ eEvent (E j) = eEvent (dEvent (eEvent (E j))) ∧ IsE j (fun k => eEvent (E (addZ 0 k))) eEvent dEvent)
   (.br (!evOk j E (E j))
    (.leaf (.fin (i 180)))
    (.ck True (.leaf (.to (S13b n m S E fl fm (W ((j : Int) + 1))))))))))
   (.leaf (.fin (i 0)))) := by kernel_rfl
theorem s13c (a : Int) {Q : AV → Prop} (h : EndsF Pr (S13b n m S E fl fm 0) Q) : EndsF Pr (S13c n m S E fl fm a) Q :=
  EndsF.norm (by kernel_rfl) (.same _ (.drop rfl (.drop rfl (.drop rfl SlEq.rfl)))) BsEq.rfl h
end
section
variable {n m : Nat} {S : Nat → Span} {E : Nat → Event} {fl fm : Bool}
theorem l13b (hm : m ≤ 1000000) (hS : allN (fun k => spOk k S (S k)) n = true) : ∀ d j, j + d = m → allN (fun k => evOk k E (E k)) j = true → EndsF Pr (S13b n m S E fl fm (j : Int)) (· = i (bif histOk n S m E then 0 else 180))
  | 0, j, hd, hj => by
    obtain rfl : j = m := by omega
    refine endsF_of G13 (t13b n j S E fl fm j) ⟨fun h => by simp at h, fun _ => ?_⟩
    show i 0 = _
    unfold histOk; rw [hS, hj]; rfl
  | d + 1, j, hd, hj => by
    refine endsF_of G13 (t13b n m S E fl fm j) ⟨fun h => ⟨by omega, by omega, ⟨by omega, rfl, fun k _ => rfl⟩, fun h1 => ?_, fun h1 => ⟨trivial, ?_⟩⟩, fun h => ?_⟩
    · show i 180 = _
      unfold histOk
      rw [allN_false (p := fun k => evOk k E (E k)) (j := j) (by omega) (by simpa using h1)]
      simp
    · show EndsF Pr (S13b n m S E fl fm (W ((j : Int) + 1))) _
      rw [W_succ (n := m) (by omega) hm]
      exact l13b hm hS d (j + 1) (by omega) (by simp only [allN, hj, Bool.true_and]; simpa using h1)
    · simp at h; omega
theorem l13a (hn : n ≤ 1000000) (hm : m ≤ 1000000) : ∀ d j, j + d = n → allN (fun k => spOk k S (S k)) j = true → EndsF Pr (S13a n m S E fl fm (j : Int)) (· = i (bif histOk n S m E then 0 else 180))
  | 0, j, hd, hj => by
    obtain rfl : j = n := by omega
    refine endsF_of G13 (t13a j m S E fl fm j) ⟨fun h => by simp at h, fun _ => ⟨trivial, ?_⟩⟩
    exact s13c j m S E fl fm j (l13b hm hj m 0 (by omega) rfl)
  | d + 1, j, hd, hj => by
    refine endsF_of G13 (t13a n m S E fl fm j) ⟨fun h => ⟨by omega, by omega, ⟨by omega, rfl, fun k _ => rfl⟩, fun h1 => ?_, fun h1 => ⟨trivial, ?_⟩⟩, fun h => ?_⟩
    · show i 180 = _
      unfold histOk
      rw [allN_false (p := fun k => spOk k S (S k)) (j := j) (by omega) (by simpa using h1)]
      simp
    · show EndsF Pr (S13a n m S E fl fm (W ((j : Int) + 1))) _
      rw [W_succ (n := n) (by omega) hn]
      exact l13a hn hm d (j + 1) (by omega) (by simp only [allN, hj, Bool.true_and]; simpa using h1)
    · simp at h; omega
end
theorem c13' {n m : Nat} {S : Nat → Span} {E : Nat → Event} {fl fm : Bool} (hn : n ≤ 1000000) (hm : m ≤ 1000000) : FnCall Pr 13 [.agg [lsS n S fl, lsE m E fm]] (i (bif histOk n S m E then 0 else 180)) :=
  fn_of_fin G13 (by kernel_rfl) (e13 n m S E fl fm) ⟨trivial, l13a hn hm n 0 (by omega) rfl⟩
theorem likes_agg_ls {n m e1 e2 : Nat} {f f' g g' : Nat → List AV} {fl fm : Bool} {vs : List AV} (hf : ∀ k, k < n → f k = f' k) (hg : ∀ k, k < m → g k = g' k) : ∀ ρ cs, VRs ρ (.agg [.ls n f e1 fl, .ls m g e2 fm] :: vs) cs → VRs ρ (.agg [.ls n f' e1 fl, .ls m g' e2 fm] :: vs) cs :=
  likes_cons (Like.agg (likes_cons (Like.ls hf (fun h => h)) (likes_cons (Like.ls hg (fun h => h)) likes_nil))) (fun _ _ h => h)
def F13 : List AV → Option (T AV)
  | [.agg [.ls n f 15 fl, .ls m g 12 fm]] => some (.ck (n ≤ 1000000 ∧ m ≤ 1000000 ∧ IsE n f eSpan dSpan ∧ IsE m g eEvent dEvent) (.leaf (i (bif histOk n (fun k => dSpan (f k)) m (fun k => dEvent (g k)) then 0 else 180))))
  | _ => none
theorem c13 : FnSpec Pr 13 F13 := by
  intro a t h
  unfold F13 at h
  split at h
  · rename_i n f fl m g fm
    simp only [Option.some.injEq] at h; subst h
    rintro v ⟨⟨hn, hm, hf, hg⟩, hs⟩
    have hs : _ = v := hs
    subst hs
    exact FnCall_args (likes_agg_ls hf hg) (c13' hn hm)
  · cases h
end
end Go.Gar

set_option linter.unusedVariables false
set_option linter.unusedSimpArgs false
set_option maxHeartbeats 1000000
namespace Go.Gar
open Go Go.EV
noncomputable section
/-! answers -/
def ins (s : Span) (st : Int) : Bool := decide (st ≥ s.start) && (s.stop == 0 || decide (st ≤ s.stop))
def T122 (s : Span) (st : Int) : T Lv := .br (decide (st ≥ s.start)) (.br (s.stop == 0) (.leaf (.fin (.bool true))) (.leaf (.fin (.bool (decide (st ≤ s.stop)))))) (.leaf (.fin (.bool false)))
def y122 : Hy := hy [(122, [8, 12])] [] [] []
def y125 : Hy := hy [(125, [8, 12])] [] [] []
theorem t122 (s : Span) (st : Int) : symF Pr noU y122 200 (stt Pr 122 [.agg (eSpan s), i st]) = T122 s st := by kernel_rfl
theorem t125 (s : Span) (st : Int) : symF Pr noU y125 200 (stt Pr 125 [.agg (eSpan s), i st]) = T122 s st := by kernel_rfl
theorem w122 (s : Span) (st : Int) : (T122 s st).Wp (EndLv Pr (· = .bool (ins s st))) := by
  unfold T122 ins
  refine ⟨fun h => ⟨fun h1 => ?_, fun h1 => ?_⟩, fun h => ?_⟩
  · show AV.bool true = _; rw [h, h1]; rfl
  · show AV.bool _ = _; rw [h, h1]; rfl
  · show AV.bool false = _; rw [h]; rfl
def F122 : List AV → Option (T AV)
  | [.agg s, .int .i64 st] => some (.ck (s = eSpan (dSpan s)) (.leaf (.bool (ins (dSpan s) st))))
  | _ => none
theorem ins_spec {g : FuncId} (h : ∀ s st, FnCall Pr g [.agg (eSpan s), i st] (.bool (ins s st))) : FnSpec Pr g F122 := by
  intro a t h0
  unfold F122 at h0
  split at h0
  · rename_i s st
    simp only [Option.some.injEq] at h0; subst h0
    rintro v ⟨hs0, hs⟩
    have hs : _ = v := hs
    subst hs
    have := h (dSpan s) st
    rw [← hs0] at this
    exact this
  · cases h0
theorem c122 : FnSpec Pr 122 F122 := ins_spec fun s st => fn_of_fin G0 (by kernel_rfl) (t122 s st) (w122 s st)
theorem c125 : FnSpec Pr 125 F122 := ins_spec fun s st => fn_of_fin G0 (by kernel_rfl) (t125 s st) (w122 s st)
def U42 : USum := addV noU 122 F122
theorem G42 : GoodU Pr U42 := G0.addV c122
def U46 : USum := addV noU 125 F122
theorem G46 : GoodU Pr U46 := G0.addV c125
abbrev Ans := Reply × Int
def eAns (a : Ans) : List AV := [i a.1.code, i a.1.value, i a.1.badge, .bool a.1.cap, i a.2]
/-- of an event's first replies: what a span's core is answered -/
def ansE (s : Span) (e : Event) : Nat → List Ans
  | 0 => []
  | k + 1 => ansE s e k ++ (bif (e.replies.f k).core == s.core then [((e.replies.f k).reply, e.stamp)] else [])
def ansL (s : Span) (E : Nat → Event) : Nat → List Ans
  | 0 => []
  | j + 1 => ansL s E j ++ (bif ins s (E j).stamp then ansE s (E j) (E j).replies.n else [])
def ansV (s : Span) (E : Nat → Event) (m : Nat) : AV := .ls (ansL s E m).length (rowL eAns (ansL s E m)) 5 false
theorem ansE_len {s : Span} {e : Event} : ∀ {k}, (ansE s e k).length ≤ k
  | 0 => Nat.le_refl _
  | k + 1 => by
    have := ansE_len (s := s) (e := e) (k := k)
    simp only [ansE, List.length_append]
    cases (e.replies.f k).core == s.core <;> simp <;> omega
theorem ansL_len {s : Span} {E : Nat → Event} : ∀ {j}, (∀ k, k < j → (E k).replies.n ≤ 1000) → (ansL s E j).length ≤ j * 1000
  | 0, _ => Nat.le_refl _
  | j + 1, h => by
    have h1 := ansL_len (s := s) (E := E) (j := j) (fun k hk => h k (by omega))
    have h2 := ansE_len (s := s) (e := E j) (k := (E j).replies.n)
    have h3 := h j (by omega)
    simp only [ansL, List.length_append]
    cases ins s (E j).stamp with
    | true => simp only [cond_true]; omega
    | false =>
      exact Nat.le_trans h1 (Nat.mul_le_mul_right _ (Nat.le_succ j))
def y42 : Hy := hy [(42, [13, 20, 25, 32])] [(42, [(2, [3, 4, 10, 11, 12]), (6, [3, 4, 6, 10, 11, 12, 22, 23, 24])])] [] []
section
variable (m : Nat) (E : Nat → Event) (fm : Bool) (s : Span)
def S42a (r : Nat) (a : Nat → List AV) (j : Int) : AM := hd 42 44 [(3, .ptr 8 0), (4, .es 9 0 r none 5), (10, lsE m E fm), (11, i m), (12, i j)] (tdo Pr 42 0) [.row 15 (eSpan s) .nil, .els 5 r a]
def S42b (r : Nat) (a : Nat → List AV) (j : Nat) (k : Int) : AM := hd 42 44 [(3, .ptr 8 0), (4, .es 9 0 r none 5), (6, .ptr 10 0), (10, lsE m E fm), (11, i m), (12, i j), (22, .ls (E j).replies.n (fun k => eDone ((E j).replies.f k)) 5 (E j).replies.full), (23, i (E j).replies.n), (24, i k)] (tdo Pr 42 1)
  [.row 15 (eSpan s) .nil, .els 5 r a, .row 12 zEvent (setT (nums (eEvent (E j)) 0))]
def S42o : AM := hd 42 44 [(3, .ptr 8 0), (4, .nilsl), (10, lsE m E fm), (11, i m), (12, i 0)] (tdo Pr 42 0) [.row 15 (eSpan s) .nil]
theorem e42 (n : Nat) (f : Nat → List AV) (fl : Bool) : symF Pr U42 y42 65 (stt Pr 42 [.agg [.ls n f 15 fl, lsE m E fm], .agg (eSpan s)]) = .ck True (.leaf (.to (S42o m E fm s))) := by kernel_rfl
theorem t42a (r : Nat) (a : Nat → List AV) (j : Nat) : symF Pr U42 y42 102 (S42a m E fm s r a j) =
  (.br (decide ((j : Int) < (m : Int)))
   (.cki (0 ≤ (j : Int) ∧ (j : Int) < (m : Int))
   (.ck (eSpan s = eSpan (dSpan (eSpan s)))
   (.br (!ins s (E j).stamp)
    (.ck (FreeE 5 r a ∧ True)
    (.leaf (.to (S42a m E fm s r a (W ((j : Int) + 1))))))
    (.ck (FreeE 5 r a ∧ True)
    (.leaf (.to (S42b m E fm s r a j 0)))))))
   (.cki (allB (fun i => idps (fun x => false) (a (addZ 0 i))) r = true)
   (.leaf (.fin (.ls r (fun i => a (addZ 0 i)) 5 false))))) := by kernel_rfl
theorem t42b (r : Nat) (a : Nat → List AV) (j k : Nat) : symF Pr U42 y42 108 (S42b m E fm s r a j k) =
  (.br (decide ((k : Int) < ((E j).replies.n : Int)))
   (.cki (0 ≤ (k : Int) ∧ (k : Int) < ((E j).replies.n : Int))
   (.br (((E j).replies.f k).core == s.core)
    (.cki (40 * (r + 1 + 1000) * 4 ≤ 2 ^ 47)
    (.ck (FreeE 5 (r + 1) (catE r (fun i => a (addZ 0 i)) (chunkE 5 (eAns (((E j).replies.f k).reply, (E j).stamp)))) ∧ True)
    (.leaf (.to (S42b m E fm s (r + 1) (catE r (fun i => a (addZ 0 i)) (chunkE 5 (eAns (((E j).replies.f k).reply, (E j).stamp)))) j (W ((k : Int) + 1)))))))
    (.ck (FreeE 5 r a ∧ True)
    (.leaf (.to (S42b m E fm s r a j (W ((k : Int) + 1))))))))
   (.ck (FreeE 5 r a ∧ True)
   (.leaf (.to (S42a m E fm s r a (W ((j : Int) + 1))))))) := by kernel_rfl
end
theorem free_eAns (a : Ans) : idps (fun _ => false) (eAns a) = true := rfl
section
variable {m : Nat} {E : Nat → Event} {fm : Bool} {s : Span}
theorem freeA (L : List Ans) (n : Nat) : FreeE 5 n (rowL eAns L) := freeE_rowL (by omega) free_eAns
theorem snocA (L : List Ans) (a : Ans) : ∀ k, k < L.length + 1 → catE L.length (fun i => rowL eAns L (addZ 0 i)) (chunkE 5 (eAns a)) k = rowL eAns (L ++ [a]) k :=
  rowL_snoc (enc := eAns) (g := chunkE 5 (eAns a)) rfl
theorem l42b {Q : AV → Prop} {L0 : List Ans} {j : Nat} (hn : (E j).replies.n ≤ 1000) (hj : j < m) (hm : m ≤ 1000) (hL : L0.length ≤ j * 1000)
    (hQ : EndsF Pr (S42a m E fm s (L0 ++ ansE s (E j) (E j).replies.n).length (rowL eAns (L0 ++ ansE s (E j) (E j).replies.n)) ((j + 1 : Nat) : Int)) Q) :
    ∀ d k, k + d = (E j).replies.n → EndsF Pr (S42b m E fm s (L0 ++ ansE s (E j) k).length (rowL eAns (L0 ++ ansE s (E j) k)) j (k : Int)) Q
  | 0, k, hd => by
    have hk : k = (E j).replies.n := by omega
    rw [hk]
    refine endsF_of G42 (t42b m E fm s _ _ j (E j).replies.n) ⟨fun h => by simp at h, fun _ => ⟨⟨freeA _ _, trivial⟩, ?_⟩⟩
    show EndsF Pr (S42a m E fm s _ _ (W ((j : Int) + 1))) Q
    rw [W_succ hj (by omega)]
    exact hQ
  | d + 1, k, hd => by
    have hlen : (L0 ++ ansE s (E j) k).length ≤ 2000000 := by
      have := ansE_len (s := s) (e := E j) (k := k)
      simp only [List.length_append]; omega
    have hW : W ((k : Int) + 1) = ((k + 1 : Nat) : Int) := W_succ (n := (E j).replies.n) (by omega) (by omega)
    refine endsF_of G42 (t42b m E fm s _ _ j k) ⟨fun h => ⟨by omega, fun h1 => ⟨by omega, ⟨?_, trivial⟩, ?_⟩, fun h1 => ⟨⟨freeA _ _, trivial⟩, ?_⟩⟩, fun h => by simp at h; omega⟩
    · refine FreeE.of (by omega) fun q hq => ?_
      rw [snocA _ _ q hq]
      exact FreeL.of (free_eAns _)
    · show EndsF Pr (S42b m E fm s _ _ j (W ((k : Int) + 1))) Q
      rw [hW]
      have ih := l42b (L0 := L0) hn hj hm hL hQ d (k + 1) (by omega)
      rw [show ansE s (E j) (k + 1) = ansE s (E j) k ++ [(((E j).replies.f k).reply, (E j).stamp)] by simp only [ansE, h1, cond_true], ← List.append_assoc] at ih
      refine EndsF.norm (by kernel_rfl) SlEq.rfl (.same _ (.els (by omega) (snocA _ _) BsEq.rfl)) ?_
      rw [List.length_append] at ih
      exact ih
    · show EndsF Pr (S42b m E fm s _ _ j (W ((k : Int) + 1))) Q
      rw [hW]
      have ih := l42b (L0 := L0) hn hj hm hL hQ d (k + 1) (by omega)
      rw [show ansE s (E j) (k + 1) = ansE s (E j) k by simp only [ansE, h1, cond_false, List.append_nil]] at ih
      exact ih
theorem l42a (hm : m ≤ 1000) (hE : ∀ k, k < m → (E k).replies.n ≤ 1000) : ∀ d j, j + d = m → EndsF Pr (S42a m E fm s (ansL s E j).length (rowL eAns (ansL s E j)) (j : Int)) (· = ansV s E m)
  | 0, j, hd => by
    obtain rfl : j = m := by omega
    refine endsF_of G42 (t42a j E fm s _ _ j) ⟨fun h => by simp at h, fun _ => ⟨allB_of fun _ _ => rfl, rfl⟩⟩
  | d + 1, j, hd => by
    have ih := l42a hm hE d (j + 1) (by omega)
    refine endsF_of G42 (t42a m E fm s _ _ j) ⟨fun h => ⟨by omega, rfl, fun h1 => ⟨⟨freeA _ _, trivial⟩, ?_⟩, fun h1 => ⟨⟨freeA _ _, trivial⟩, ?_⟩⟩, fun h => by simp at h; omega⟩
    · show EndsF Pr (S42a m E fm s _ _ (W ((j : Int) + 1))) _
      rw [W_succ (n := m) (by omega) (by omega)]
      have h1 : ins s (E j).stamp = false := by simpa using h1
      rw [show ansL s E (j + 1) = ansL s E j by simp only [ansL, h1, cond_false, List.append_nil]] at ih
      exact ih
    · have h1 : ins s (E j).stamp = true := by simpa using h1
      have := l42b (E := E) (fm := fm) (s := s) (L0 := ansL s E j) (Q := (· = ansV s E m)) (hE j (by omega)) (by omega) hm (ansL_len fun k hk => hE k (by omega)) (by
        rw [show ansL s E (j + 1) = ansL s E j ++ ansE s (E j) (E j).replies.n by simp only [ansL, h1, cond_true]] at ih
        exact ih) (E j).replies.n 0 (by omega)
      simp only [ansE, List.append_nil] at this
      exact this
theorem c42' {n : Nat} {f : Nat → List AV} {fl : Bool} (hm : m ≤ 1000) (hE : ∀ k, k < m → (E k).replies.n ≤ 1000) : FnCall Pr 42 [.agg [.ls n f 15 fl, lsE m E fm], .agg (eSpan s)] (ansV s E m) := by
  refine fn_of_fin G42 (by kernel_rfl) (e42 m E fm s n f fl) ⟨trivial, ?_⟩
  refine EndsF.more (by kernel_rfl) 5 (rowL eAns []) ?_
  exact EndsF.norm (by kernel_rfl) (.same _ (.like Like.nil_es SlEq.rfl)) BsEq.rfl (l42a hm hE m 0 (by omega))
end
def okE (m : Nat) (g : Nat → List AV) : Prop := m ≤ 1000 ∧ IsE m g eEvent dEvent ∧ ∀ k, k < m → (dEvent (g k)).replies.n ≤ 1000
def F42 : List AV → Option (T AV)
  | [.agg [.ls n f 15 fl, .ls m g 12 fm], .agg s] => some (.ck (okE m g ∧ s = eSpan (dSpan s)) (.leaf (ansV (dSpan s) (fun k => dEvent (g k)) m)))
  | _ => none
theorem c42 : FnSpec Pr 42 F42 := by
  intro a t h
  unfold F42 at h
  split at h
  · rename_i n f fl m g fm s
    simp only [Option.some.injEq] at h; subst h
    rintro v ⟨⟨⟨hm, hg, hr⟩, hs0⟩, hs⟩
    have hs : _ = v := hs
    subst hs
    have := c42' (E := fun k => dEvent (g k)) (fm := fm) (s := dSpan s) (n := n) (f := f) (fl := fl) hm hr
    rw [← hs0] at this
    exact FnCall_args (likes_agg_ls (f := f) (fun _ _ => rfl) hg) this
  · cases h
end
end Go.Gar

set_option linter.unusedVariables false
set_option linter.unusedSimpArgs false
set_option maxHeartbeats 1000000
namespace Go.Gar
open Go Go.EV
noncomputable section
/-! the first answer's stamp -/
def stOf (s : Span) (E : Nat → Event) (m : Nat) : Int := match ansL s E m with
  | [] => 0
  | a :: _ => a.2
theorem ansL_pre {s : Span} {E : Nat → Event} {j : Nat} : ∀ d, ∃ t, ansL s E (j + d) = ansL s E j ++ t
  | 0 => ⟨[], by simp⟩
  | d + 1 => by
    obtain ⟨t, h⟩ := ansL_pre (s := s) (E := E) (j := j) d
    exact ⟨t ++ (bif ins s (E (j + d)).stamp then ansE s (E (j + d)) (E (j + d)).replies.n else []), by
      show ansL s E (j + d) ++ _ = _
      rw [h, List.append_assoc]
      rfl⟩
theorem ansE_pre {s : Span} {e : Event} {j : Nat} : ∀ d, ∃ t, ansE s e (j + d) = ansE s e j ++ t
  | 0 => ⟨[], by simp⟩
  | d + 1 => by
    obtain ⟨t, h⟩ := ansE_pre (s := s) (e := e) (j := j) d
    exact ⟨_, by
      show ansE s e (j + d) ++ _ = _
      rw [h, List.append_assoc]⟩
def y46 : Hy := hy [(46, [12, 24, 35, 40])] [(46, [(2, [2, 3, 5]), (6, [2, 3, 5, 6, 7])])] [] []
section
variable (n m : Nat) (S : Nat → Span) (E : Nat → Event) (fl fm : Bool) (s : Span)
def S46a (j : Int) : AM := hd 46 44 [(2, .ptr 8 0), (3, .ptr 9 0), (5, i j)] (tdo Pr 46 0) [.row 2 [lsS n S fl, lsE m E fm] .nil, .row 15 (eSpan s) .nil]
def S46b (j : Nat) (k : Int) : AM := hd 46 44 [(2, .ptr 8 0), (3, .ptr 9 0), (5, i j), (6, .ptr 10 0), (7, i k)] (tdo Pr 46 1) [.row 2 [lsS n S fl, lsE m E fm] .nil, .row 15 (eSpan s) .nil, .row 12 zEvent (setT (nums (eEvent (E j)) 0))]
theorem e46 : symF Pr U46 y46 70 (stt Pr 46 [.agg [lsS n S fl, lsE m E fm], .agg (eSpan s)]) = .ck True (.leaf (.to (S46a n m S E fl fm s 0))) := by kernel_rfl
theorem t46a (j : Nat) : symF Pr U46 y46 90 (S46a n m S E fl fm s j) =
  (.br (decide ((j : Int) < (m : Int)))
   (.cki (0 ≤ (j : Int) ∧ (j : Int) < (m : Int))
   (.ck True (.leaf (.to (S46b n m S E fl fm s j 0)))))
   (.leaf (.fin (i 0)))) := by kernel_rfl
def A46 (j k : Nat) : T Lv := .ck True (.leaf (.to (S46b n m S E fl fm s j (W ((k : Int) + 1)))))
theorem t46b (j k : Nat) : symF Pr U46 y46 160 (S46b n m S E fl fm s j k) =
  (.br (decide ((k : Int) < ((E j).replies.n : Int)))
   (.cki (0 ≤ (k : Int) ∧ (k : Int) < ((E j).replies.n : Int))
   (.br (((E j).replies.f k).core == s.core)
    (.ck (eSpan s = eSpan (dSpan (eSpan s)))
    (.br (ins s (E j).stamp)
     (.leaf (.fin (i (E j).stamp)))
     (A46 n m S E fl fm s j k)))
    (A46 n m S E fl fm s j k)))
   (.ck True (.leaf (.to (S46a n m S E fl fm s (W ((j : Int) + 1))))))) := by kernel_rfl
end
section
variable {n m : Nat} {S : Nat → Span} {E : Nat → Event} {fl fm : Bool} {s : Span}
theorem l46b {j : Nat} (hj : j < m) (hm : m ≤ 1000) (hn : (E j).replies.n ≤ 1000) (h0 : ansL s E j = []) (hQ : ansL s E (j + 1) = [] → EndsF Pr (S46a n m S E fl fm s ((j + 1 : Nat) : Int)) (· = i (stOf s E m))) :
    ∀ d k, k + d = (E j).replies.n → (ins s (E j).stamp = true → ansE s (E j) k = []) → EndsF Pr (S46b n m S E fl fm s j (k : Int)) (· = i (stOf s E m))
  | 0, k, hd, hk => by
    have hkn : k = (E j).replies.n := by omega
    rw [hkn] at hk ⊢
    refine endsF_of G46 (t46b n m S E fl fm s j (E j).replies.n) ⟨fun h => by simp at h, fun _ => ⟨trivial, ?_⟩⟩
    show EndsF Pr (S46a n m S E fl fm s (W ((j : Int) + 1))) _
    rw [W_succ hj (by omega)]
    refine hQ ?_
    show ansL s E j ++ _ = []
    rw [h0]
    cases hi : ins s (E j).stamp with
    | true => rw [cond_true, hk hi]; rfl
    | false => rfl
  | d + 1, k, hd, hk => by
    have hW : W ((k : Int) + 1) = ((k + 1 : Nat) : Int) := W_succ (n := (E j).replies.n) (by omega) (by omega)
    refine endsF_of G46 (t46b n m S E fl fm s j k) ⟨fun h => ⟨by omega, fun h1 => ⟨rfl, fun h2 => ?_, fun h2 => ⟨trivial, ?_⟩⟩, fun h1 => ⟨trivial, ?_⟩⟩, fun h => by simp at h; omega⟩
    · show i (E j).stamp = i (stOf s E m)
      obtain ⟨t1, e1⟩ := ansE_pre (s := s) (e := E j) (j := k + 1) ((E j).replies.n - (k + 1))
      rw [show k + 1 + ((E j).replies.n - (k + 1)) = (E j).replies.n by omega] at e1
      obtain ⟨t2, e2⟩ := ansL_pre (s := s) (E := E) (j := j + 1) (m - (j + 1))
      rw [show j + 1 + (m - (j + 1)) = m by omega] at e2
      have e3 : ansL s E (j + 1) = (((E j).replies.f k).reply, (E j).stamp) :: t1 := by
        show ansL s E j ++ _ = _
        rw [h0, h2, cond_true, e1]
        simp only [ansE, hk h2, h1, cond_true, List.nil_append, List.cons_append]
      unfold stOf
      rw [e2, e3]; rfl
    · show EndsF Pr (S46b n m S E fl fm s j (W ((k : Int) + 1))) _
      rw [hW]
      exact l46b hj hm hn h0 hQ d (k + 1) (by omega) (fun h => by rw [h2] at h; cases h)
    · show EndsF Pr (S46b n m S E fl fm s j (W ((k : Int) + 1))) _
      rw [hW]
      refine l46b hj hm hn h0 hQ d (k + 1) (by omega) (fun h => ?_)
      simp only [ansE, hk h, h1, cond_false, List.append_nil]
theorem l46a (hm : m ≤ 1000) (hE : ∀ k, k < m → (E k).replies.n ≤ 1000) : ∀ d j, j + d = m → ansL s E j = [] → EndsF Pr (S46a n m S E fl fm s (j : Int)) (· = i (stOf s E m))
  | 0, j, hd, h0 => by
    obtain rfl : j = m := by omega
    refine endsF_of G46 (t46a n j S E fl fm s j) ⟨fun h => by simp at h, fun _ => ?_⟩
    show i 0 = i (stOf s E j)
    unfold stOf; rw [h0]
  | d + 1, j, hd, h0 =>
    endsF_of G46 (t46a n m S E fl fm s j) ⟨fun h => ⟨by omega, trivial, l46b (by omega) hm (hE j (by omega)) h0 (fun h => l46a hm hE d (j + 1) (by omega) h) (E j).replies.n 0 (by omega) (fun _ => rfl)⟩, fun h => by simp at h; omega⟩
theorem c46' (hm : m ≤ 1000) (hE : ∀ k, k < m → (E k).replies.n ≤ 1000) : FnCall Pr 46 [.agg [lsS n S fl, lsE m E fm], .agg (eSpan s)] (i (stOf s E m)) :=
  fn_of_fin G46 (by kernel_rfl) (e46 n m S E fl fm s) ⟨trivial, l46a hm hE m 0 (by omega) rfl⟩
end
def F46 : List AV → Option (T AV)
  | [.agg [.ls n f 15 fl, .ls m g 12 fm], .agg s] => some (.ck (IsE n f eSpan dSpan ∧ okE m g ∧ s = eSpan (dSpan s)) (.leaf (i (stOf (dSpan s) (fun k => dEvent (g k)) m))))
  | _ => none
theorem c46 : FnSpec Pr 46 F46 := by
  intro a t h
  unfold F46 at h
  split at h
  · rename_i n f fl m g fm s
    simp only [Option.some.injEq] at h; subst h
    rintro v ⟨⟨hf, ⟨hm, hg, hr⟩, hs0⟩, hs⟩
    have hs : _ = v := hs
    subst hs
    have := c46' (n := n) (S := fun k => dSpan (f k)) (fl := fl) (E := fun k => dEvent (g k)) (fm := fm) (s := dSpan s) hm hr
    rw [← hs0] at this
    exact FnCall_args (likes_agg_ls hf hg) this
  · cases h

/-! lists of numbers -/
def eqN (n : Nat) (l : Nat → Int) (m : Nat) (k : Nat → Int) : Bool := Nat.beq n m && allN (fun j => l j == k j) n
def y15 : Hy := hy [(15, [10, 14, 25])] [(15, [(2, [0, 1, 5])])] [] []
section
variable (n m : Nat) (l k : Nat → Int) (fl fm : Bool)
def S15 (j : Int) : AM := hd 15 26 [(0, lsI n l fl), (1, lsI m k fm), (5, i j)] (tdo Pr 15 0) []
theorem e15 : symF Pr noU y15 80 (stt Pr 15 [lsI n l fl, lsI m k fm]) = .br ((n : Int) != (m : Int)) (.leaf (.fin (.bool false))) (.ck True (.leaf (.to (S15 n m l k fl fm 0)))) := by kernel_rfl
theorem t15 (j : Nat) : symF Pr noU y15 100 (S15 n m l k fl fm j) =
  (.br (decide ((j : Int) < (n : Int)))
   (.cki (0 ≤ (j : Int) ∧ (j : Int) < (n : Int))
   (.cki (0 ≤ (j : Int) ∧ (j : Int) < (m : Int))
   (.br (l j != k j)
    (.leaf (.fin (.bool false)))
    (.ck True (.leaf (.to (S15 n m l k fl fm (W ((j : Int) + 1)))))))))
   (.leaf (.fin (.bool true)))) := by kernel_rfl
end
section
variable {n : Nat} {l k : Nat → Int} {fl fm : Bool}
theorem l15 (hn : n ≤ 1000000) : ∀ d j, j + d = n → allN (fun j => l j == k j) j = true → EndsF Pr (S15 n n l k fl fm (j : Int)) (· = .bool (allN (fun j => l j == k j) n))
  | 0, j, hd, hj => by
    obtain rfl : j = n := by omega
    refine endsF_of G0 (t15 j j l k fl fm j) ⟨fun h => by simp at h, fun _ => ?_⟩
    show AV.bool true = _
    rw [hj]
  | d + 1, j, hd, hj => by
    refine endsF_of G0 (t15 n n l k fl fm j) ⟨fun h => ⟨by omega, by omega, fun h1 => ?_, fun h1 => ⟨trivial, ?_⟩⟩, fun h => by simp at h; omega⟩
    · show AV.bool false = _
      rw [allN_false (p := fun j => l j == k j) (j := j) (by omega) (by simpa using h1)]
    · show EndsF Pr (S15 n n l k fl fm (W ((j : Int) + 1))) _
      rw [W_succ (n := n) (by omega) hn]
      exact l15 hn d (j + 1) (by omega) (by simp only [allN, hj, Bool.true_and]; simpa using h1)
end
theorem c15' {n m : Nat} {l k : Nat → Int} {fl fm : Bool} (hn : n ≤ 1000000) : FnCall Pr 15 [lsI n l fl, lsI m k fm] (.bool (eqN n l m k)) := by
  refine fn_of_fin G0 (by kernel_rfl) (e15 n m l k fl fm) ⟨fun h => ?_, fun h => ⟨trivial, ?_⟩⟩
  · show AV.bool false = _
    unfold eqN
    have : Nat.beq n m = false := by
      cases hb : Nat.beq n m with
      | false => rfl
      | true =>
        rw [Tr.beq_true] at hb; subst hb
        simp at h
    rw [this]; rfl
  · obtain rfl : n = m := by
      have h : (n : Int) = (m : Int) := by simpa using h
      omega
    have := l15 (l := l) (k := k) (fl := fl) (fm := fm) hn n 0 (by omega) rfl
    unfold eqN
    rw [show Nat.beq n n = true from (Tr.beq_true).mpr rfl, Bool.true_and]
    exact this
def dI : List AV → Int
  | [a] => gi a
  | _ => 0
def eI (n : Int) : List AV := [i n]
def F15 : List AV → Option (T AV)
  | [.ls n f 1 fl, .ls m g 1 fm] => some (.ck (n ≤ 1000000 ∧ IsE n f eI dI ∧ IsE m g eI dI) (.leaf (.bool (eqN n (fun k => dI (f k)) m (fun k => dI (g k))))))
  | _ => none
theorem c15 : FnSpec Pr 15 F15 := by
  intro a t h
  unfold F15 at h
  split at h
  · rename_i n f fl m g fm
    simp only [Option.some.injEq] at h; subst h
    rintro v ⟨⟨hn, hf, hg⟩, hs⟩
    have hs : _ = v := hs
    subst hs
    exact FnCall_args (likes_cons (Like.ls hf (fun h => h)) (likes_ls hg (fun h => h))) (c15' hn)
  · cases h

/-! small histories -/
def small (n m : Nat) (E : Nat → Event) : Bool := decide (n ≤ 40) && (decide (m ≤ 120) && allN (fun k => decide ((E k).replies.n ≤ 10)) m)
def y11 : Hy := hy [(11, [7, 12, 18, 28])] [(11, [(2, [1, 3])])] [] []
section
variable (n m : Nat) (S : Nat → Span) (E : Nat → Event) (fl fm : Bool)
def S11 (j : Int) : AM := hd 11 29 [(1, .ptr 8 0), (3, i j)] (tdo Pr 11 0) [.row 2 [lsS n S fl, lsE m E fm] .nil]
theorem e11 : symF Pr noU y11 100 (stt Pr 11 [.agg [lsS n S fl, lsE m E fm]]) =
  (.br (decide ((n : Int) > 40))
   (.leaf (.fin (.bool false)))
   (.br (decide ((m : Int) > 120))
    (.leaf (.fin (.bool false)))
    (.ck True (.leaf (.to (S11 n m S E fl fm 0)))))) := by kernel_rfl
theorem t11 (j : Nat) : symF Pr noU y11 100 (S11 n m S E fl fm j) =
  (.br (decide ((j : Int) < (m : Int)))
   (.cki (0 ≤ (j : Int) ∧ (j : Int) < (m : Int))
   (.br (decide (((E j).replies.n : Int) > 10))
    (.leaf (.fin (.bool false)))
    (.ck True (.leaf (.to (S11 n m S E fl fm (W ((j : Int) + 1))))))))
   (.leaf (.fin (.bool true)))) := by kernel_rfl
end
section
variable {n m : Nat} {S : Nat → Span} {E : Nat → Event} {fl fm : Bool}
theorem l11 (hm : m ≤ 120) : ∀ d j, j + d = m → allN (fun k => decide ((E k).replies.n ≤ 10)) j = true → EndsF Pr (S11 n m S E fl fm (j : Int)) (· = .bool (allN (fun k => decide ((E k).replies.n ≤ 10)) m))
  | 0, j, hd, hj => by
    obtain rfl : j = m := by omega
    refine endsF_of G0 (t11 n j S E fl fm j) ⟨fun h => by simp at h, fun _ => ?_⟩
    show AV.bool true = _
    rw [hj]
  | d + 1, j, hd, hj => by
    refine endsF_of G0 (t11 n m S E fl fm j) ⟨fun h => ⟨by omega, fun h1 => ?_, fun h1 => ⟨trivial, ?_⟩⟩, fun h => by simp at h; omega⟩
    · show AV.bool false = _
      rw [allN_false (p := fun k => decide ((E k).replies.n ≤ 10)) (j := j) (by omega) (by simp at h1 ⊢; omega)]
    · show EndsF Pr (S11 n m S E fl fm (W ((j : Int) + 1))) _
      rw [W_succ (n := m) (by omega) (by omega)]
      exact l11 hm d (j + 1) (by omega) (by simp only [allN, hj, Bool.true_and]; simp at h1 ⊢; omega)
theorem c11' : FnCall Pr 11 [.agg [lsS n S fl, lsE m E fm]] (.bool (small n m E)) := by
  refine fn_of_fin G0 (by kernel_rfl) (e11 n m S E fl fm) ⟨fun h => ?_, fun h => ⟨fun h1 => ?_, fun h1 => ⟨trivial, ?_⟩⟩⟩
  · show AV.bool false = _
    unfold small
    rw [show decide (n ≤ 40) = false by simp at h ⊢; omega]; rfl
  · show AV.bool false = _
    unfold small
    rw [show decide (m ≤ 120) = false by simp at h1 ⊢; omega]; simp
  · have hm : m ≤ 120 := by simp at h1; omega
    have := l11 (n := n) (S := S) (E := E) (fl := fl) (fm := fm) hm m 0 (by omega) rfl
    unfold small
    rw [show decide (n ≤ 40) = true by simp at h ⊢; omega, show decide (m ≤ 120) = true by simpa using hm, Bool.true_and, Bool.true_and]
    exact this
end
def F11 : List AV → Option (T AV)
  | [.agg [.ls n f 15 fl, .ls m g 12 fm]] => some (.ck (IsE n f eSpan dSpan ∧ IsE m g eEvent dEvent) (.leaf (.bool (small n m (fun k => dEvent (g k))))))
  | _ => none
theorem c11 : FnSpec Pr 11 F11 := by
  intro a t h
  unfold F11 at h
  split at h
  · rename_i n f fl m g fm
    simp only [Option.some.injEq] at h; subst h
    rintro v ⟨⟨hf, hg⟩, hs⟩
    have hs : _ = v := hs
    subst hs
    exact FnCall_args (likes_agg_ls hf hg) (c11' (S := fun k => dSpan (f k)))
  · cases h
end
end Go.Gar
