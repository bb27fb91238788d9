/- Regions that draw their order. -/
import Derived.Test.YthmfjfblndophaaAmCode
namespace Go.AM

/-! ### What comes before what -/

def bv (acc : Array Nat) (o : Oper) : Nat := o.after.foldl (fun s e => if Region.binds .any e then s ||| 2 ^ e.on ||| acc.getD e.on 0 else s) 0

theorem before_fold : ∀ (l : List Oper) (acc : Array Nat), ∃ r : Array Nat, l.foldl (fun acc o => acc.push (bv acc o)) acc = r ∧ r.size = acc.size + l.length ∧
    (∀ i, i < acc.size → r[i]? = acc[i]?) ∧ ∀ j o, l[j]? = some o → ∃ acc' : Array Nat, r[acc.size + j]? = some (bv acc' o) ∧ acc'.size = acc.size + j ∧ ∀ i, i < acc'.size → acc'[i]? = r[i]? := by
  intro l
  induction l with
  | nil => intro acc; exact ⟨acc, rfl, by simp, fun i _ => rfl, fun j o h => by simp at h⟩
  | cons x l ih =>
    intro acc
    obtain ⟨r, h1, h2, h3, h4⟩ := ih (acc.push (bv acc x))
    refine ⟨r, h1, ?_, fun i hi => ?_, fun j o ho => ?_⟩
    · rw [h2]; simp; omega
    · rw [h3 i (by simp; omega), Array.getElem?_push_lt hi, Array.getElem?_eq_getElem hi]
    · cases j with
      | zero =>
        simp only [List.getElem?_cons_zero, Option.some.injEq] at ho
        subst ho
        refine ⟨acc, ?_, by simp, fun i hi => ?_⟩
        · rw [Nat.add_zero, h3 acc.size (by simp)]
          exact Array.getElem?_push_size
        · rw [h3 i (by simp; omega), Array.getElem?_push_lt hi, Array.getElem?_eq_getElem hi]
      | succ j =>
        simp only [List.getElem?_cons_succ] at ho
        obtain ⟨acc', g1, g2, g3⟩ := h4 j o ho
        have e : (acc.push (bv acc x)).size + j = acc.size + (j + 1) := by simp; omega
        rw [e] at g1 g2
        exact ⟨acc', g1, g2, g3⟩

theorem before_eq (all : Array Oper) : Region.before all = all.toList.foldl (fun acc o => acc.push (bv acc o)) #[] := by
  unfold Region.before
  rw [← Array.foldl_toList]
  rfl

theorem fold_or (X : Array Nat) : ∀ (l : List Edge) (s i : Nat), (l.foldl (fun s e => if Region.binds .any e then s ||| 2 ^ e.on ||| X.getD e.on 0 else s) s).testBit i = true →
    s.testBit i = true ∨ ∃ e ∈ l, Region.binds .any e = true ∧ (i = e.on ∨ (X.getD e.on 0).testBit i = true) := by
  intro l
  induction l with
  | nil => intro s i h; exact .inl h
  | cons e l ih =>
    intro s i h
    simp only [List.foldl_cons] at h
    rcases ih _ i h with h1 | ⟨e', he', hb, hi⟩
    · split at h1
      · rename_i hb
        simp only [Nat.testBit_or, Bool.or_eq_true] at h1
        rcases h1 with (h2 | h2) | h2
        · exact .inl h2
        · rw [Nat.testBit_two_pow] at h2
          exact .inr ⟨e, by simp, hb, .inl (of_decide_eq_true h2).symm⟩
        · exact .inr ⟨e, by simp, hb, .inr h2⟩
      · exact .inl h1
    · exact .inr ⟨e', by simp [he'], hb, hi⟩

/-- The edges of an operation, and what they reach. -/
theorem before_spec (all : Array Oper) (hback : ∀ j o, all[j]? = some o → ∀ e ∈ o.after.toList, Region.binds .any e = true → e.on < j) {j : Nat} {o : Oper} (ho : all[j]? = some o) {i : Nat}
    (h : ((Region.before all).getD j 0).testBit i = true) : ∃ e ∈ o.after.toList, Region.binds .any e = true ∧ (i = e.on ∨ ((Region.before all).getD e.on 0).testBit i = true) := by
  obtain ⟨r, h1, h2, h3, h4⟩ := before_fold all.toList #[]
  rw [before_eq, h1] at h ⊢
  obtain ⟨acc', g1, g2, g3⟩ := h4 j o (by simpa using ho)
  simp only [List.size_toArray, List.length_nil, Nat.zero_add] at g1 g2
  have e1 : r.getD j 0 = bv acc' o := by rw [Array.getD_eq_getD_getElem?, g1]; rfl
  rw [e1] at h
  unfold bv at h
  rw [← Array.foldl_toList] at h
  rcases fold_or acc' _ 0 i h with h0 | ⟨e, he, hb, hi⟩
  · simp at h0
  · refine ⟨e, he, hb, hi.imp_right fun hx => ?_⟩
    have hlt := hback j o ho e he hb
    have : acc'.getD e.on 0 = r.getD e.on 0 := by
      rw [Array.getD_eq_getD_getElem?, Array.getD_eq_getD_getElem?, g3 e.on (by omega)]
    rw [← this]
    exact hx

theorem before_lt (all : Array Oper) (hback : ∀ j o, all[j]? = some o → ∀ e ∈ o.after.toList, Region.binds .any e = true → e.on < j) : ∀ (j : Nat), j < all.size → ∀ i, ((Region.before all).getD j 0).testBit i = true → i < j := by
  intro j
  induction j using Nat.strongRecOn with
  | _ j ih =>
    intro hj i h
    have ho : all[j]? = some all[j] := Array.getElem?_eq_getElem hj
    obtain ⟨e, he, hb, hi⟩ := before_spec all hback ho h
    have hlt := hback j _ ho e he hb
    rcases hi with rfl | hi
    · exact hlt
    · exact Nat.lt_trans (ih e.on hlt (by omega) i hi) hlt

section
variable {P : Program} {E : Env}

/-- The closed facts, spelt out. -/
structure OkD (all : Array Oper) : Prop where
  back : ∀ (j : Nat) (o : Oper), all[j]? = some o → ∀ e ∈ o.after.toList, Region.binds .any e = true → e.on < j
  guard : ∀ (j : Nat) (o : Oper), all[j]? = some o → ∀ g b, o.guard = some (g, b) → ((Region.before all).getD j 0).testBit g = true ∧ g < j
  dst : ∀ (j : Nat) (o : Oper) (i : Nat) (p : Oper) (d : Tmp), all[j]? = some o → all[i]? = some p → i ≠ j → p.dst = some d → o.dst ≠ some d
  rd : ∀ (j : Nat) (o : Oper) (i : Nat) (p : Oper) (d : Tmp), all[j]? = some o → all[i]? = some p → i ≠ j → p.dst = some d → d ∈ reads o → ((Region.before all).getD j 0).testBit i = true ∨ ((Region.before all).getD i 0).testBit j = true

theorem okDraw_spec {all : Array Oper} (h : okDraw all = true) : OkD all := by
  unfold okDraw at h
  simp only [List.all_eq_true] at h
  have mem : ∀ j o, all[j]? = some o → (o, j) ∈ all.toList.zipIdx := by
    intro j o ho
    rw [List.mem_zipIdx_iff_getElem?]
    simpa using ho
  refine ⟨fun j o ho e he hb => ?_, fun j o ho g b hg => ?_, fun j o i p d ho hp hne hd => ?_, fun j o i p d ho hp hne hd hr => ?_⟩
  · have h1 := h (o, j) (mem j o ho)
    simp only [Bool.and_eq_true] at h1
    have h2 := Array.all_eq_true_iff_forall_mem.1 h1.1.1 e (by simpa using he)
    simp only [hb, Bool.not_true, Bool.false_or] at h2
    exact of_decide_eq_true h2
  · have h1 := h (o, j) (mem j o ho)
    simp only [Bool.and_eq_true, hg] at h1
    exact ⟨h1.1.2.1, of_decide_eq_true h1.1.2.2⟩
  · have h1 := h (o, j) (mem j o ho)
    simp only [Bool.and_eq_true, List.all_eq_true] at h1
    have h2 := h1.2 (p, i) (mem i p hp)
    simp only [hne, decide_false, Bool.false_or, hd, Bool.and_eq_true, Bool.not_eq_true', beq_eq_false_iff_ne] at h2
    exact h2.1
  · have h1 := h (o, j) (mem j o ho)
    simp only [Bool.and_eq_true, List.all_eq_true] at h1
    have h2 := h1.2 (p, i) (mem i p hp)
    simp only [hne, decide_false, Bool.false_or, hd, Bool.and_eq_true, Bool.or_eq_true, Bool.not_eq_true'] at h2
    rcases h2.2 with (h3 | h3) | h3
    · rw [List.contains_iff_mem.2 hr] at h3; cases h3
    · exact .inl h3
    · exact .inr h3

/-- A record of a run in the text's order. -/
structure Run (P : Program) (E : Env) (rec : Rec) (all : Array Oper) (T : Nat → Array Value) (Hs : Nat → H) (V : Nat → Value) (W : Nat → Bool) (F : Nat → FP) (j0 : Nat) : Prop where
  step : ∀ j o, j0 ≤ j → all[j]? = some o → W j = Region.wanted o (yielded all (T j)) ∧ T (j + 1) = put (T j) o.dst (V j) ∧
    (W j = true → fp P (T j) o = some (F j) ∧ op P E rec (T j) o (Hs j) = some (V j, Hs (j + 1))) ∧ (W j = false → V j = undef ∧ Hs (j + 1) = Hs j)

def did (Hs : Nat → H) (F : Nat → FP) (i : Nat) : Did := ⟨i, F i, (Hs i).nx, decide ((Hs (i + 1)).wr = (Hs i).wr)⟩

theorem drawGo_run {rec : Rec} {all : Array Oper} {B : Array Nat} : ∀ (l : List Oper) (j0 : Nat) (log : List Did) (t t' : Array Value) (h h' : H), l = all.toList.drop j0 → j0 ≤ all.size →
    drawGo P E rec all B l j0 log t h = some (t', h') →
    ∃ T Hs V W F, T j0 = t ∧ Hs j0 = h ∧ T all.size = t' ∧ Hs all.size = h' ∧ Run P E rec all T Hs V W F j0 ∧
      (∀ j, j0 ≤ j → j < all.size → W j = true → (∀ d ∈ log, (B.getD j 0).testBit d.i = true ∨ free d (did Hs F j) = true) ∧
        ∀ i, j0 ≤ i → i < j → W i = true → (B.getD j 0).testBit i = true ∨ free (did Hs F i) (did Hs F j) = true) := by
  intro l
  induction l with
  | nil =>
    intro j0 log t t' h h' hl hj ho
    simp only [drawGo] at ho
    cases ho
    have hsz : all.size ≤ j0 := by
      have := congrArg List.length hl
      simp at this
      omega
    obtain rfl : j0 = all.size := by omega
    refine ⟨fun _ => t, fun _ => h, fun _ => undef, fun _ => false, fun _ => .pure, rfl, rfl, rfl, rfl, ⟨fun j o hj ho => ?_⟩, fun j h1 h2 => by omega⟩
    rw [Array.getElem?_eq_none (by omega)] at ho
    cases ho
  | cons o l ih =>
    intro j0 log t t' h h' hl hj ho
    have hlt : j0 < all.size := by
      have := congrArg List.length hl
      simp at this
      omega
    have hoj : all[j0]? = some o := by
      have := congrArg (fun l => l[0]?) hl
      simp only [List.getElem?_cons_zero, List.getElem?_drop, Nat.add_zero] at this
      simpa using this.symm
    have hl' : l = all.toList.drop (j0 + 1) := by
      have := congrArg List.tail hl
      simpa using this
    -- how to put one step in front
    have front : ∀ (w : Bool) (v : Value) (f : FP) (t1 : Array Value) (h1 : H) (log1 : List Did), w = Region.wanted o (yielded all t) → t1 = put t o.dst v →
        (w = true → fp P t o = some f ∧ op P E rec t o h = some (v, h1)) → (w = false → v = undef ∧ h1 = h) →
        (∀ d ∈ log, d ∈ log1) → (w = true → ⟨j0, f, h.nx, decide (h1.wr = h.wr)⟩ ∈ log1) →
        (w = true → ∀ d ∈ log, (B.getD j0 0).testBit d.i = true ∨ free d ⟨j0, f, h.nx, decide (h1.wr = h.wr)⟩ = true) →
        drawGo P E rec all B l (j0 + 1) log1 t1 h1 = some (t', h') →
        ∃ T Hs V W F, T j0 = t ∧ Hs j0 = h ∧ T all.size = t' ∧ Hs all.size = h' ∧ Run P E rec all T Hs V W F j0 ∧
          (∀ j, j0 ≤ j → j < all.size → W j = true → (∀ d ∈ log, (B.getD j 0).testBit d.i = true ∨ free d (did Hs F j) = true) ∧
            ∀ i, j0 ≤ i → i < j → W i = true → (B.getD j 0).testBit i = true ∨ free (did Hs F i) (did Hs F j) = true) := by
      intro w v f t1 h1 log1 e1 e2 e3 e4 e5 e6 e7 e8
      obtain ⟨T, Hs, V, W, F, q1, q2, q3, q4, q5, q6⟩ := ih (j0 + 1) log1 t1 t' h1 h' hl' (by omega) e8
      have hne : ∀ j, j0 + 1 ≤ j → ¬ j = j0 := fun j h => by omega
      have n1 : ¬ (j0 + 1 = j0) := by omega
      have n2 : ¬ (all.size = j0) := by omega
      refine ⟨fun j => if j = j0 then t else T j, fun j => if j = j0 then h else Hs j, fun j => if j = j0 then v else V j, fun j => if j = j0 then w else W j, fun j => if j = j0 then f else F j,
        if_pos rfl, if_pos rfl, by simp only [if_neg n2]; exact q3, by simp only [if_neg n2]; exact q4, ⟨fun j o' hj' ho' => ?_⟩, fun j hj1 hj2 hW => ?_⟩
      · by_cases hjj : j = j0
        · subst hjj
          rw [hoj] at ho'
          cases ho'
          simp only [if_true, if_neg n1]
          refine ⟨e1, ?_, fun hw => ?_, fun hw => ?_⟩
          · rw [q1, e2]
          · rw [q2]; exact e3 hw
          · rw [q2]; exact e4 hw
        · have h3 : j0 + 1 ≤ j := by omega
          have h4 : ¬ (j + 1 = j0) := by omega
          simp only [if_neg hjj, if_neg h4]
          exact q5.step j o' h3 ho'
      · have didne : ∀ i, j0 + 1 ≤ i → did (fun j => if j = j0 then h else Hs j) (fun j => if j = j0 then f else F j) i = did Hs F i := by
          intro i hi
          unfold did
          simp only [if_neg (hne i hi), if_neg (hne (i + 1) (by omega))]
        have did0 : did (fun j => if j = j0 then h else Hs j) (fun j => if j = j0 then f else F j) j0 = ⟨j0, f, h.nx, decide (h1.wr = h.wr)⟩ := by
          unfold did
          simp only [if_true, if_neg n1, q2]
        by_cases hjj : j = j0
        · subst hjj
          simp only [if_true] at hW
          rw [did0]
          exact ⟨e7 hW, fun i a b => by omega⟩
        · have h3 : j0 + 1 ≤ j := by omega
          simp only [if_neg hjj] at hW
          rw [didne j h3]
          obtain ⟨r1, r2⟩ := q6 j h3 hj2 hW
          refine ⟨fun d hd => r1 d (e5 d hd), fun i hi1 hi2 hWi => ?_⟩
          by_cases hi0 : i = j0
          · subst hi0
            simp only [if_true] at hWi
            rw [did0]
            exact r1 _ (e6 hWi)
          · have h5 : j0 + 1 ≤ i := by omega
            simp only [if_neg hi0] at hWi
            rw [didne i h5]
            exact r2 i h5 hi2 hWi
    simp only [drawGo] at ho
    split at ho
    · rename_i hw
      obtain ⟨f, hf, ho1⟩ := bind_some ho
      obtain ⟨⟨v, h1⟩, hop, ho2⟩ := bind_some ho1
      simp only at ho2
      split at ho2
      · rename_i hchk
        simp only [List.all_eq_true, Bool.or_eq_true] at hchk
        exact front true v f _ h1 _ hw.symm rfl (fun _ => ⟨hf, hop⟩) (fun h => by cases h) (fun d hd => List.mem_cons_of_mem _ hd) (fun _ => List.mem_cons_self) (fun _ => hchk) ho2
      · cases ho2
    · rename_i hw
      exact front false undef .pure _ h _ (by simpa using hw) rfl (fun h => by cases h) (fun _ => ⟨rfl, rfl⟩) (fun d hd => hd) (fun h => by cases h) (fun h => by cases h) ho

end
end Go.AM
