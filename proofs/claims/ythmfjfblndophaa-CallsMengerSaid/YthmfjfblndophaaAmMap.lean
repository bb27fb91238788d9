/- Maps whose keys are whole numbers. -/
import Derived.Test.YthmfjfblndophaaAmSim

namespace Go.AM

/-- What a map holds. -/
def KvI (kv : List (Int × Value)) (es : List MapEntry) : Prop := (es.map fun e => (e.key, e.val)) = kv.map fun p => (Value.int .i64 p.1, p.2)

def look : List (Int × Value) → Int → Nat → Option (Nat × Value)
  | [], _, _ => none
  | p :: kv, k, i => if k = p.1 then some (i, p.2) else look kv k (i + 1)

section
variable {P : Program} {R : Type} {kt vt t : TypeId} {h : H} {b c : Nat} {es : List MapEntry} {kv : List (Int × Value)} {k : Int}

theorem eqV_int (hu : P.underlying kt = some (.int .i64)) (a b : Int) : eqV P 10 kt (.int .i64 a) (.int .i64 b) = some (a == b) := by
  simp [eqV, hu]

theorem findK_int (hu : P.underlying kt = some (.int .i64)) : ∀ (es : List MapEntry) (kv : List (Int × Value)) (i : Nat), KvI kv es → findK P kt (.int .i64 k) es i = some (look kv k i) := by
  intro es
  induction es with
  | nil =>
    intro kv i h
    cases kv with
    | nil => rfl
    | cons p kv => simp [KvI] at h
  | cons e es ih =>
    intro kv i h
    cases kv with
    | nil => simp [KvI] at h
    | cons p kv =>
      simp only [KvI, List.map_cons, List.cons.injEq, Prod.mk.injEq] at h
      obtain ⟨⟨h1, h2⟩, h3⟩ := h
      simp only [findK, look, h1, h2, eqV_int hu, Option.bind_some]
      by_cases hk : k = p.1
      · simp [hk]
      · simp [hk]
        exact ih kv (i + 1) h3

theorem isKey_int (hu : P.underlying kt = some (.int .i64)) : isKey P kt (.int .i64 k) = true := by
  simp [isKey, plainK, keyT, hu, eqV_int hu]

theorem lok_int {z : Value} {K : Value → Option R} (ht : P.underlying t = some (.map kt vt)) (hu : P.underlying kt = some (.int .i64)) (hz : zero? P vt = some z) (hb : h.blk b = some (.mp es c)) (hkv : KvI kv es) :
    lok P h t (.map (some b)) (.int .i64 k) true K = match look kv k 0 with
      | some r => K (.tuple #[r.2, .bool true])
      | none => K (.tuple #[z, .bool false]) := by
  unfold lok lookup
  simp only [ht, isKey_int hu, if_true, mapOf, hb, Option.bind_some, findK_int hu es kv 0 hkv, hz]
  cases look kv k 0 <;> rfl

theorem lok_int0 {z : Value} {K : Value → Option R} (ht : P.underlying t = some (.map kt vt)) (hu : P.underlying kt = some (.int .i64)) (hz : zero? P vt = some z) (hb : h.blk b = some (.mp es c)) (hkv : KvI kv es) :
    lok P h t (.map (some b)) (.int .i64 k) false K = match look kv k 0 with
      | some r => K r.2
      | none => K z := by
  unfold lok lookup
  simp only [ht, isKey_int hu, if_true, mapOf, hb, Option.bind_some, findK_int hu es kv 0 hkv, hz]
  cases look kv k 0 <;> rfl

theorem mup_new {v : Value} {K : H → Option R} (ht : P.underlying t = some (.map kt vt)) (hu : P.underlying kt = some (.int .i64)) (hb : h.blk b = some (.mp es c)) (hkv : KvI kv es) (hl : look kv k 0 = none) :
    mup P h t (.map (some b)) (.int .i64 k) v K = K (h.set b (.mp (es ++ [{ key := .int .i64 k, val := v, born := c }]) (c + 1))) := by
  unfold mup mapUpdate
  simp only [ht, isKey_int hu, if_true, mapOf, hb, Option.bind_some, findK_int hu es kv 0 hkv, hl]

theorem KvI.snoc (hkv : KvI kv es) (v : Value) (c : Nat) : KvI (kv ++ [(k, v)]) (es ++ [{ key := .int .i64 k, val := v, born := c }]) := by
  unfold KvI at *
  rw [List.map_append, List.map_append, hkv]
  rfl

theorem look_none : ∀ (kv : List (Int × Value)) (i : Nat), look kv k i = none ↔ ∀ p ∈ kv, p.1 ≠ k := by
  intro kv
  induction kv with
  | nil => intro i; simp [look]
  | cons p kv ih =>
    intro i
    simp only [look, List.mem_cons, forall_eq_or_imp]
    by_cases h : k = p.1
    · rw [if_pos h]; simp [h]
    · rw [if_neg h, ih]
      exact ⟨fun h2 => ⟨fun e => h e.symm, h2⟩, And.right⟩

theorem look_some : ∀ (kv : List (Int × Value)) (i : Nat) (r : Nat × Value), look kv k i = some r → ∃ j, r.1 = i + j ∧ kv[j]? = some (k, r.2) := by
  intro kv
  induction kv with
  | nil => intro i r h; simp [look] at h
  | cons p kv ih =>
    intro i r h
    simp only [look] at h
    by_cases hk : k = p.1
    · rw [if_pos hk] at h
      cases h
      exact ⟨0, rfl, by simp [hk]⟩
    · rw [if_neg hk] at h
      obtain ⟨j, h1, h2⟩ := ih (i + 1) r h
      exact ⟨j + 1, by omega, by simpa using h2⟩

end

/-- The end of a slice. -/
theorem SlR.drop {P : Program} {h : H} {e t : TypeId} {s : Nat} {v : Value} {l : List (List Value)} (a : SlR h e s v l) (hu : P.underlying t = some (.slice e)) (hs : size? P e = some s) {i : Nat} (h1 : i ≤ l.length) :
    ∃ v', SlR h e s v' (l.drop i) ∧ ∀ {R : Type} (K : Value → Option R), sli P h t v (some (.int .i64 i)) none none K = K v' := by
  cases a with
  | nil =>
    have : i = 0 := by simp at h1; omega
    subst this
    refine ⟨_, .nil, fun K => ?_⟩
    simp [sli, slice, hu, hs, bound]
  | @at_ b o c cs own _ hb hr hk hc hl hxs =>
    have hlen : (l.drop i).length = l.length - i := by simp
    have hx' : ∀ i1 x, (l.drop i)[i1]? = some x → x.length = s ∧ ∀ j, j < s → cs[o + i * s + i1 * s + j]? = x[j]? := by
      intro i1 x hx
      rw [List.getElem?_drop] at hx
      obtain ⟨h2, h3⟩ := hxs _ _ hx
      refine ⟨h2, fun j hj => ?_⟩
      rw [← h3 j hj, Nat.add_mul]
      congr 1
      omega
    have hl' : o + i * s + (l.drop i).length * s ≤ cs.length := by
      rw [hlen, Nat.add_assoc, ← Nat.add_mul]
      rw [show i + (l.length - i) = l.length by omega]
      exact hl
    have hbd : bound (some (.int .i64 (i : Int))) l.length 0 = some i := by
      simp only [bound]
      rw [if_pos ⟨by omega, by omega⟩]
      simp
    by_cases hcu : c < U
    · have hck : capK c = c := by simp [capK, hcu]
      rw [hck] at hk
      by_cases hci : c = i
      · have h0 : l.length = i := by omega
        subst hci
        refine ⟨.slice (some ⟨b, o, none⟩) (l.length - c) (c - c), ?_, fun K => ?_⟩
        · have := SlR.at_ (h := h) (e := e) (s := s) (o := o) (c := c - c) (l := l.drop c) hb hr (by rw [hlen]; omega) (by unfold capK; rw [if_pos (by omega)]; omega) (by rw [hlen, h0, Nat.sub_self, Nat.zero_mul]; omega) (fun j x hx => by rw [List.drop_of_length_le (by omega)] at hx; simp at hx)
          rw [hlen] at this
          exact this
        · simp only [sli, slice, hu, hr, hs]
          rw [if_pos ⟨trivial, hc, rfl⟩]
          simp [bound, hcu, hck, h0]
      · refine ⟨.slice (some ⟨b, o + i * s, none⟩) (l.length - i) (c - i), ?_, fun K => ?_⟩
        · have := SlR.at_ (h := h) (e := e) (s := s) (c := c - i) (l := l.drop i) hb hr (by rw [hlen]; unfold capK; rw [if_pos (by omega)]; omega) (by unfold capK; rw [if_pos (by omega)]; omega) hl' hx'
          rw [hlen] at this
          exact this
        · simp only [sli, slice, hu, hr, hs]
          rw [if_pos ⟨trivial, hc, rfl⟩]
          simp [bound, hcu, hck, hci, h1]
    · have hck : capK c = c - U := by simp [capK, hcu]
      refine ⟨.slice (some ⟨b, o + i * s, none⟩) (l.length - i) (U + (capK c - i)), ?_, fun K => ?_⟩
      · have := SlR.at_ (h := h) (e := e) (s := s) (c := U + (capK c - i)) (l := l.drop i) hb hr (by rw [hlen, capK_U]; omega) (by rw [capK_U]; omega) hl' hx'
        rw [hlen] at this
        exact this
      · simp only [sli, slice, hu, hr, hs]
        rw [if_pos ⟨trivial, hc, rfl⟩]
        simp [bound, hcu, h1]

end Go.AM
