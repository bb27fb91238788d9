/- Maps. -/
import Derived.Test.YthmfjfblndophaaAmAppend
namespace Go.AM

section
variable {P : Program} {E : Env} {ι : Nat → Emb} {h : H} {w : World} {n : Nat}

theorem plainC_eq {v v' : Value} (hp : plainC v = true) (hv : VR ι n v v') : v' = v := by
  cases hv <;> first | rfl | (simp [plainC] at hp; done)

theorem plainK_eq {v v' : Value} (hp : plainK v = true) (hv : VR ι n v v') : v' = v := by
  cases hv with
  | agg h1 h2 =>
    rename_i xs xs'
    simp only [plainK, List.all_eq_true] at hp
    congr 1
    apply Array.ext
    · exact h1.symm
    · intro i g1 g2
      exact plainC_eq (hp _ (by simp)) (h2 i xs[i] xs'[i] (Array.getElem?_eq_getElem g2) (Array.getElem?_eq_getElem g1))
  | bool b => rfl
  | int k x => rfl
  | _ => simp [plainK] at hp

theorem checkKey_run (w : World) (em : Bool) : ∀ (d : Nat) (t : TypeId) (x x' : Value), keyT P d t = true → eqV P d t x x = some true → VR ι n x x' →
    ∀ D, d ≤ D → (Instr.checkKey em D t x').run P w = .ok () w := by
  intro d
  induction d with
  | zero => intro t x x' h; simp [keyT] at h
  | succ d ih =>
    intro t x x' hk hq hx D hD
    obtain ⟨D, rfl⟩ : ∃ k, D = k + 1 := ⟨D - 1, by omega⟩
    have hD' : d ≤ D := by omega
    unfold keyT at hk
    unfold eqV at hq
    split at hk
    · rename_i hu
      rw [hu] at hq
      cases hx <;> simp only [reduceCtorEq] at hq
      simp only [Instr.checkKey, Sem.run_bind, run_underlying hu, Result.andThen_ok, Sem.run_pure]
    · rename_i hu
      rw [hu] at hq
      cases hx <;> simp only [reduceCtorEq] at hq
      simp only [Instr.checkKey, Sem.run_bind, run_underlying hu, Result.andThen_ok, Sem.run_pure]
    · rename_i fs hu
      rw [hu] at hq
      cases hx <;> simp only [reduceCtorEq] at hq
      rename_i xs xs' h1 h2
      simp only [Bool.and_eq_true, Bool.not_eq_true', List.all_eq_true, decide_eq_true_eq] at hk
      obtain ⟨hst, hall⟩ := hk
      rw [if_neg (by simp [hst])] at hq
      simp only [Instr.checkKey, Sem.run_bind, run_underlying hu, Result.andThen_ok]
      rw [← Array.forIn_toList]
      generalize fs.toList = L at hq hall
      induction L with
      | nil => rfl
      | cons f L ihL =>
        simp only [List.foldr_cons] at hq
        obtain ⟨hn, hp⟩ := hall f (by simp)
        rw [if_pos hn] at hq
        obtain ⟨a, ha, hq1⟩ := bind_some hq
        obtain ⟨b, hb, hq2⟩ := bind_some hq1
        rw [ha] at hb
        cases hb
        obtain ⟨q, hqq, hq3⟩ := bind_some hq2
        obtain ⟨a', ra, va⟩ := part_run (P := P) (ι := ι) (n := n) (cs := xs) (cs' := xs') ⟨h1, h2⟩ ha
        have hqt : q = true := by
          cases q with
          | true => rfl
          | false => simp at hq3
        subst hqt
        have h3 := ih f.type a a' hp hqq va D hD'
        simp only [List.forIn_cons]
        rw [if_pos hn]
        simp only [Sem.run_bind, ra w, Result.andThen_ok, h3, Sem.run_pure]
        exact ihL (by simpa using hq3) (fun y hy => hall y (by simp [hy]))
    · rename_i len e hu
      rw [hu] at hq
      cases hx <;> simp only [reduceCtorEq] at hq
      rename_i xs xs' h1 h2
      obtain ⟨s, hs, hq⟩ := bind_some hq
      simp only [Instr.checkKey, Sem.run_bind, run_underlying hu, Result.andThen_ok]
      simp only [Std.Legacy.Range.forIn_eq_forIn_range', Std.Legacy.Range.size, Nat.sub_zero, Nat.add_one_sub_one, Nat.div_one]
      rw [List.range_eq_range'] at hq
      generalize List.range' 0 len = L at hq
      induction L with
      | nil => rfl
      | cons j L ihL =>
        simp only [List.foldr_cons] at hq
        obtain ⟨a, ha, hq1⟩ := bind_some hq
        obtain ⟨b, hb, hq2⟩ := bind_some hq1
        rw [ha] at hb
        cases hb
        obtain ⟨q, hqq, hq3⟩ := bind_some hq2
        obtain ⟨a', ra, va⟩ := part_run (P := P) (ι := ι) (n := n) (cs := xs) (cs' := xs') ⟨h1, h2⟩ ha
        have hqt : q = true := by
          cases q with
          | true => rfl
          | false => simp at hq3
        subst hqt
        have h3 := ih e a a' hk hqq va D hD'
        simp only [List.forIn_cons, Sem.run_bind, run_sizeOf' hs, ra w, Result.andThen_ok, h3, Sem.run_pure]
        exact ihL (by simpa using hq3)
    · cases hk

/-- What is found, on both sides. -/
def FR (ι : Nat → Emb) (n : Nat) : Option (Nat × Value) → Option (Nat × Value) → Prop
  | none, none => True
  | some (i, v), some (i', v') => i = i' ∧ VR ι n v v'
  | _, _ => False

/-- Entries, one by one. -/
def ER (ι : Nat → Emb) (n : Nat) (es es' : List MapEntry) : Prop :=
  es.length = es'.length ∧ ∀ (i : Nat) (e e' : MapEntry), es[i]? = some e → es'[i]? = some e' → VR ι n e.key e'.key ∧ VR ι n e.val e'.val ∧ e.born = e'.born

theorem ER.uncons {e : MapEntry} {es u : List MapEntry} (h : ER ι n (e :: es) u) : ∃ e' es', u = e' :: es' ∧ VR ι n e.key e'.key ∧ VR ι n e.val e'.val ∧ e.born = e'.born ∧ ER ι n es es' := by
  cases u with
  | nil => exact absurd h.1 (by simp)
  | cons e' es' =>
    obtain ⟨a, b, c⟩ := h.2 0 e e' rfl rfl
    exact ⟨e', es', rfl, a, b, c, by simpa using h.1, fun i x x' hx hx' => h.2 (i + 1) x x' (by simpa using hx) (by simpa using hx')⟩

theorem findAsking_run (w : World) {kt : TypeId} {k k' : Value} (hk : VR ι n k k') : ∀ (es es' : List MapEntry) (i : Nat) (r : Option (Nat × Value)), ER ι n es es' → findK P kt k es i = some r →
    ∃ r', (Instr.findAsking kt k' es' i).run P w = .ok r' w ∧ FR ι n r r' := by
  intro es
  induction es with
  | nil =>
    intro es' i r he hr
    cases es' with
    | nil => cases hr; exact ⟨none, rfl, trivial⟩
    | cons a b => exact absurd he.1 (by simp)
  | cons e es ih =>
    intro es' i r he hr
    obtain ⟨e', es', rfl, hke, hve, hbe, he'⟩ := he.uncons
    simp only [findK] at hr
    obtain ⟨q, hq, hr⟩ := bind_some hr
    have := equal_run w hq hk hke
    simp only [Instr.findAsking, Sem.run_bind, this, Result.andThen_ok]
    cases q with
    | true =>
      simp only [if_true, Option.some.injEq] at hr
      subst hr
      exact ⟨some (i, e'.val), rfl, rfl, hve⟩
    | false =>
      simp only [Bool.false_eq_true, if_false] at hr ⊢
      exact ih es' (i + 1) r he' hr

theorem findNow_run {kt : TypeId} {d : TypeDesc} (hu : P.underlying kt = some d) (hd : (∃ k, d = .int k) ∨ d = .bool) {k k' : Value} (hk : VR ι n k k') :
    ∀ (es es' : List MapEntry) (i : Nat) (r : Option (Nat × Value)), ER ι n es es' → findK P kt k es i = some r → ∃ r', Instr.findNow d k' es' i = some r' ∧ FR ι n r r' := by
  intro es
  induction es with
  | nil =>
    intro es' i r he hr
    cases es' with
    | nil => cases hr; exact ⟨none, rfl, trivial⟩
    | cons a b => exact absurd he.1 (by simp)
  | cons e es ih =>
    intro es' i r he hr
    obtain ⟨e', es', rfl, hke, hve, hbe, he'⟩ := he.uncons
    simp only [findK] at hr
    obtain ⟨q, hq, hr⟩ := bind_some hr
    have hs : Instr.sameNow d k' e'.key = some q := by
      obtain ⟨ek, ev, eb⟩ := e
      obtain ⟨ek', ev', eb'⟩ := e'
      simp only at hke hq ⊢
      unfold eqV at hq
      rw [hu] at hq
      rcases hd with ⟨kk, rfl⟩ | rfl
      · cases hk <;> simp only [reduceCtorEq] at hq
        cases hke <;> simp only [reduceCtorEq] at hq
        simpa only [Instr.sameNow] using hq
      · cases hk <;> simp only [reduceCtorEq] at hq
        cases hke <;> simp only [reduceCtorEq] at hq
        simpa only [Instr.sameNow] using hq
    simp only [Instr.findNow, hs]
    cases q with
    | true =>
      simp only [if_true, Option.some.injEq] at hr
      subst hr
      exact ⟨some (i, e'.val), rfl, rfl, hve⟩
    | false =>
      simp only [Bool.false_eq_true, if_false] at hr
      exact ih es' (i + 1) r he' hr

theorem findKey_run (w : World) {kt : TypeId} {k k' : Value} (hkt : keyT P 10 kt = true) (hk : VR ι n k k') {es es' : List MapEntry} {r : Option (Nat × Value)} (he : ER ι n es es')
    (hr : findK P kt k es 0 = some r) : ∃ r', (Instr.findKey kt k' es').run P w = .ok r' w ∧ FR ι n r r' := by
  unfold keyT at hkt
  have plain : ∀ d, P.underlying kt = some d → ((∃ k, d = .int k) ∨ d = .bool) → ∃ r', (Instr.findKey kt k' es').run P w = .ok r' w ∧ FR ι n r r' := by
    intro d hu hd
    obtain ⟨r', h1, h2⟩ := findNow_run (P := P) hu hd hk es es' 0 r he hr
    refine ⟨r', ?_, h2⟩
    simp only [Instr.findKey, Sem.run_bind, run_underlying hu, Result.andThen_ok, h1, Sem.run_pure]
  have asked : ∀ d, P.underlying kt = some d → (∀ a b, Instr.sameNow d a b = none) → ∃ r', (Instr.findKey kt k' es').run P w = .ok r' w ∧ FR ι n r r' := by
    intro d hu hd
    cases es' with
    | nil =>
      cases es with
      | nil =>
        cases hr
        refine ⟨none, ?_, trivial⟩
        simp only [Instr.findKey, Sem.run_bind, run_underlying hu, Result.andThen_ok, Instr.findNow, Sem.run_pure]
      | cons a b => exact absurd he.1 (by simp)
    | cons e' es' =>
      obtain ⟨r', h1, h2⟩ := findAsking_run (P := P) w hk es (e' :: es') 0 r he hr
      refine ⟨r', ?_, h2⟩
      simp only [Instr.findKey, Sem.run_bind, run_underlying hu, Result.andThen_ok, Instr.findNow, hd]
      exact h1
  split at hkt
  · rename_i hu; exact plain _ hu (.inl ⟨_, rfl⟩)
  · rename_i hu; exact plain _ hu (.inr rfl)
  · rename_i hu; exact asked _ hu (fun a b => rfl)
  · rename_i hu; exact asked _ hu (fun a b => rfl)
  · cases hkt

theorem run_getObj {b : Nat} {es : Array MapEntry} {c : Nat} (hb : w.heap[b]? = some (.map es c)) : (getObj b).run P w = .ok (.map es c) w := by
  simp only [getObj, Sem.run, hb]

theorem run_setObj {b : Nat} {es : Array MapEntry} {c : Nat} (hb : w.heap[b]? = some (.map es c)) (o : Obj) : (setObj b o).run P w = .ok () { w with heap := w.heap.setIfInBounds b o } := by
  simp only [setObj, Sem.run, hb]

theorem isKey_parts {kt : TypeId} {k : Value} (hk : isKey P kt k = true) : plainK k = true ∧ keyT P 10 kt = true ∧ eqV P 10 kt k k = some true := by
  unfold isKey at hk
  simp only [Bool.and_eq_true, beq_iff_eq] at hk
  exact ⟨hk.1.1, hk.1.2, hk.2⟩

theorem lookup_run (r : Rel P E ι h w) {t : TypeId} {m m' k k' v : Value} {ok : Bool} (hm : VR ι h.nx m m') (hk : VR ι h.nx k k') (hl : lookup P t m k ok h = some v) :
    ∃ v', (Instr.lookup t m' k' ok).run P w = .ok v' w ∧ VR ι h.nx v v' := by
  unfold lookup at hl
  split at hl
  · rename_i kt vt hu
    split at hl
    · rename_i hkey
      obtain ⟨p1, p2, p3⟩ := isKey_parts hkey
      obtain ⟨⟨es, c⟩, hmo, hl1⟩ := bind_some hl
      clear hl
      obtain ⟨r1, hf, hl⟩ := bind_some hl1
      clear hl1
      have tail : ∀ es' : Array MapEntry, ER ι h.nx es es'.toList → ∃ v', VR ι h.nx v v' ∧ ((Instr.checkKey es'.isEmpty 10000 kt k').run P w = .ok () w) ∧
          ∃ r', (Instr.findKey kt k' es'.toList).run P w = .ok r' w ∧ (match r' with
            | some (_, u) => v' = if ok then .tuple #[u, .bool true] else u
            | none => ∃ z, (zeroValue vt).run P w = .ok z w ∧ v' = if ok then .tuple #[z, .bool false] else z) := by
        intro es' her
        obtain ⟨r', hfr, hFR⟩ := findKey_run (P := P) w p2 hk her hf
        have hck := checkKey_run (P := P) w es'.isEmpty 10 kt k k' p2 p3 hk 10000 (by omega)
        cases r1 with
        | none =>
          cases r' with
          | some _ => exact hFR.elim
          | none =>
            simp only at hl
            obtain ⟨z, hz, hv⟩ := map_some hl
            refine ⟨v, ?_, hck, none, hfr, z, run_zero hz w, hv.symm⟩
            rw [← hv]
            have hzr := zero_rel (ι := ι) (n := h.nx) hz
            cases ok
            · exact hzr
            · obtain ⟨g1, g2⟩ := (LR.cons hzr (LR.cons (VR.bool false) .nil)).toArray
              exact .tuple g1 g2
        | some p =>
          obtain ⟨i, u⟩ := p
          cases r' with
          | none => exact hFR.elim
          | some p' =>
            obtain ⟨i', u'⟩ := p'
            obtain ⟨_, huu⟩ := hFR
            simp only [Option.some.injEq] at hl
            refine ⟨if ok then .tuple #[u', .bool true] else u', ?_, hck, some (i', u'), hfr, rfl⟩
            rw [← hl]
            cases ok
            · exact huu
            · obtain ⟨g1, g2⟩ := (LR.cons huu (LR.cons (VR.bool true) .nil)).toArray
              exact .tuple g1 g2
      unfold mapOf at hmo
      split at hmo
      · cases hmo
        cases hm
        obtain ⟨v', hv', hck, r', hfr, htail⟩ := tail #[] ⟨rfl, fun i e e' a => by simp at a⟩
        refine ⟨v', ?_, hv'⟩
        simp only [Instr.lookup, Sem.run_bind, run_underlying hu, Result.andThen_ok, Sem.run_pure, hck, hfr]
        cases r' with
        | none => obtain ⟨z, hz, rfl⟩ := htail; simp only [Sem.run_bind, hz, Result.andThen_ok, Sem.run_pure]
        | some p => obtain ⟨i, u⟩ := p; simp only at htail; subst htail; simp only [Sem.run_bind, Result.andThen_ok, Sem.run_pure]
      · rename_i b
        split at hmo
        · rename_i es0 c0 hb
          cases hmo
          cases hm
          obtain ⟨es', g1, g2, g3⟩ := r.blk b _ hb
          obtain ⟨v', hv', hck, r', hfr, htail⟩ := tail es' ⟨by simpa using g2, fun i e e' a a' => g3 i e e' a (by simpa using a')⟩
          refine ⟨v', ?_, hv'⟩
          simp only [Instr.lookup, Sem.run_bind, run_underlying hu, Result.andThen_ok, run_getObj g1, Sem.run_pure, hck, hfr]
          cases r' with
          | none => obtain ⟨z, hz, rfl⟩ := htail; simp only [Sem.run_bind, hz, Result.andThen_ok, Sem.run_pure]
          | some p => obtain ⟨i, u⟩ := p; simp only at htail; subst htail; simp only [Sem.run_bind, Result.andThen_ok, Sem.run_pure]
        · cases hmo
      · cases hmo
    · cases hl
  · cases hl

theorem heap_set_other (w : World) (g k : Nat) (o : Obj) (hk : k ≠ g) : ({ w with heap := w.heap.setIfInBounds g o } : World).heap[k]? = w.heap[k]? := by
  simp only [Array.getElem?_setIfInBounds]
  rw [if_neg (by omega)]

theorem heap_set_same (w : World) (g : Nat) (o o' : Obj) (hg : w.heap[g]? = some o') : ({ w with heap := w.heap.setIfInBounds g o } : World).heap[g]? = some o := by
  have : g < w.heap.size := (Array.getElem?_eq_some_iff.1 hg).1
  simp [this]

theorem Rel.setMap (r : Rel P E ι h w) {b : Nat} {es : List MapEntry} {c : Nat} (hb : h.blk b = some (.mp es c)) (es2 : List MapEntry) (es2' : Array MapEntry) (c2 : Nat) (he : ER ι h.nx es2 es2'.toList) :
    Tr ι h w ι (h.set b (.mp es2 c2)) { w with heap := w.heap.setIfInBounds (ι b).g (.map es2' c2) } ∧
      Rel P E ι (h.set b (.mp es2 c2)) { w with heap := w.heap.setIfInBounds (ι b).g (.map es2' c2) } := by
  obtain ⟨es', g1, g2, g3⟩ := r.blk b _ hb
  refine r.upd hb rfl _ ι _ b (.mp es2 c2) (fun i => ?_) (Nat.le_refl _) (r.dom b _ hb) (.inl rfl) (fun _ _ => rfl) rfl (by simp) (fun g hg => heap_set_other w _ _ _ hg) rfl rfl rfl ?_
  · simp only [H.set]
    split <;> rfl
  · exact ⟨es2', heap_set_same w _ _ _ g1, by simpa using he.1, fun i e e' a a' => he.2 i e e' a (by simpa using a')⟩

theorem mapUpdate_run (r : Rel P E ι h w) {t : TypeId} {m m' k k' x x' : Value} {h' : H} (hm : VR ι h.nx m m') (hk : VR ι h.nx k k') (hx : VR ι h.nx x x') (hu' : mapUpdate P t m k x h = some h') :
    ∃ w', (Instr.mapUpdate t m' k' x').run P w = .ok () w' ∧ Tr ι h w ι h' w' ∧ Rel P E ι h' w' := by
  unfold mapUpdate at hu'
  split at hu'
  · rename_i kt vt b hu
    split at hu'
    · rename_i hkey
      obtain ⟨p1, p2, p3⟩ := isKey_parts hkey
      obtain ⟨⟨es, c⟩, hmo, hl1⟩ := bind_some hu'
      clear hu'
      obtain ⟨r1, hf, hl⟩ := bind_some hl1
      clear hl1
      unfold mapOf at hmo
      simp only at hmo
      split at hmo
      · rename_i es0 c0 hb
        cases hmo
        cases hm
        obtain ⟨es', g1, g2, g3⟩ := r.blk b _ hb
        have her : ER ι h.nx es es'.toList := ⟨by simpa using g2, fun i e e' a a' => g3 i e e' a (by simpa using a')⟩
        obtain ⟨r', hfr, hFR⟩ := findKey_run (P := P) w p2 hk her hf
        have hck := checkKey_run (P := P) w false 10 kt k k' p2 p3 hk 10000 (by omega)
        have hkk : k' = k := plainK_eq p1 hk
        cases r1 with
        | none =>
          cases r' with
          | some _ => exact hFR.elim
          | none =>
            simp only [Option.some.injEq] at hl
            subst hl
            have := r.setMap hb (es ++ [{ key := k, val := x, born := c }]) (es'.push { key := k', val := x', born := c }) (c + 1) ⟨by simp [g2], fun i e e' a a' => by
              by_cases hi : i < es.length
              · rw [List.getElem?_append_left hi] at a
                have hi' : i < es'.size := by omega
                have a2 : es'[i]? = some e' := by
                  rw [Array.getElem?_toList, Array.getElem?_push_lt hi'] at a'
                  rw [← a', Array.getElem?_eq_getElem hi']
                exact g3 i e e' a a2
              · by_cases hi2 : i = es.length
                · subst hi2
                  rw [List.getElem?_append_right (Nat.le_refl _)] at a
                  simp only [Nat.sub_self, List.getElem?_cons_zero, Option.some.injEq] at a
                  rw [Array.getElem?_toList, g2, Array.getElem?_push_size] at a'
                  simp only [Option.some.injEq] at a'
                  subst a; subst a'
                  exact ⟨hk, hx, rfl⟩
                · rw [List.getElem?_eq_none (by simp; omega)] at a
                  cases a⟩
            refine ⟨_, ?_, this.1, this.2⟩
            simp only [Instr.mapUpdate, Sem.run_bind, run_underlying hu, Result.andThen_ok, run_getObj g1, hck, hfr]
            exact run_setObj g1 _
        | some p =>
          obtain ⟨i, u⟩ := p
          cases r' with
          | none => exact hFR.elim
          | some p' =>
            obtain ⟨i', u'⟩ := p'
            obtain ⟨hii, huu⟩ := hFR
            subst hii
            simp only at hl
            split at hl
            · rename_i hsame
              simp only [Option.some.injEq] at hl
              subst hl
              simp only [Bool.and_eq_true] at hsame
              have hold : ((es'[i]?).map (·.key)).getD k' = ((es[i]?).map (·.key)).getD k := by
                cases hi : es[i]? with
                | none =>
                  have : es'[i]? = none := by
                    rw [List.getElem?_eq_none_iff] at hi
                    rw [Array.getElem?_eq_none_iff]
                    omega
                  rw [this]
                  simp [hkk]
                | some e =>
                  have hil : i < es.length := by
                    rcases Nat.lt_or_ge i es.length with h | h
                    · exact h
                    · rw [List.getElem?_eq_none h] at hi; cases hi
                  have hi' : es'[i]? = some es'[i] := Array.getElem?_eq_getElem (by omega)
                  rw [hi']
                  have := (g3 i e _ hi hi').1
                  rw [hi] at hsame
                  simp only [Option.map_some, Option.getD_some] at hsame ⊢
                  exact plainK_eq hsame.2 this
              have := r.setMap hb (es.modify i fun e => { e with key := k, val := x }) (es'.modify i fun e => { e with key := k', val := x' }) c ⟨by simp [g2], fun j e e' a a' => by
                rw [List.getElem?_modify] at a
                rw [Array.getElem?_toList, Array.getElem?_modify] at a'
                by_cases hj : i = j
                · rw [if_pos hj] at a'
                  simp only [hj, if_true] at a
                  cases hej : es[j]? with
                  | none => rw [hej] at a; cases a
                  | some e0 =>
                    cases hej' : es'[j]? with
                    | none => rw [hej'] at a'; cases a'
                    | some e0' =>
                      rw [hej] at a
                      rw [hej'] at a'
                      simp only [Option.map_some, Option.some.injEq, Option.map_eq_map] at a a'
                      subst a; subst a'
                      exact ⟨hk, hx, (g3 j e0 e0' hej hej').2.2⟩
                · rw [if_neg hj] at a'
                  simp only [hj, if_false] at a
                  exact g3 j e e' (by simpa using a) (by simpa using a')⟩
              refine ⟨_, ?_, this.1, this.2⟩
              simp only [Instr.mapUpdate, Sem.run_bind, run_underlying hu, Result.andThen_ok, run_getObj g1, hck, hfr, Instr.keyThatStays, hold]
              rw [hkk, if_pos hsame.1]
              simp only [Sem.run_pure, Result.andThen_ok]
              exact run_setObj g1 _
            · cases hl
      · cases hmo
    · cases hu'
  · cases hu'

theorem makeMap_run (r : Rel P E ι h w) {t : TypeId} {v : Value} {h' : H} (hm : makeMap none h = some (v, h')) : Out P E ι h w (Instr.makeMap t none) v h' := by
  unfold makeMap at hm
  simp only [Option.some.injEq, Prod.mk.injEq] at hm
  obtain ⟨rfl, rfl⟩ := hm
  have := r.alloc (.mp [] 0) (.map #[] 0) ⟨w.heap.size, 0, 0, 0⟩ rfl ⟨#[], by rw [Emb.new_at]; exact heap_push_at w _, rfl, fun i e e' a => by simp at a⟩
  refine ⟨.map (some w.heap.size), _, _, ?_, this.1, this.2, ?_⟩
  · simp only [Instr.makeMap, Sem.run_bind, run_newObj, Result.andThen_ok, Sem.run_pure]
    rfl
  · have h2 := VR.map (ι := Emb.new ι h.nx ⟨w.heap.size, 0, 0, 0⟩) (n := (h.new (.mp [] 0)).nx) (b := h.nx) (by simp [H.new])
    rw [Emb.new_at] at h2
    exact h2

end
end Go.AM
