/- The lowest bit of a set; how many bits it has. -/
import Derived.Test.YtakhklelgcfgjaaDoorF1
namespace Go.AM
open Go.Proofs

/-- The lowest number of a set below 1024. -/
def low (x : Nat) : Nat := ((List.range 10).find? fun i => x.testBit i).getD 0

/-- How many of the first ten numbers are in a set. -/
def pop (n : Nat) : Nat := (List.range 10).countP fun i => n.testBit i

theorem iso_any {P : Program} {E : Env} {n : Nat} {f : FuncId} {args : Array Value} {h h0 h1 : H} {v : Value} (hi : (E.iso f && args.toList.all plainV) = true) (hc : call P E (n + 1) f args h0 = some (v, h1)) : call P E (n + 1) f args h = some (v, h) := by
  unfold call at hc ⊢
  rw [if_pos hi] at hc ⊢
  cases hb : body P E (call P E n) (n + 1) f args (lone E) with
  | none => rw [hb] at hc; cases hc
  | some r =>
    obtain ⟨v', h'⟩ := r
    rw [hb] at hc
    simp only [Option.bind_some] at hc ⊢
    split at hc
    · rename_i hp
      rw [if_pos hp]
      cases hc
      rfl
    · cases hc

noncomputable def tzOk (x : Nat) : Bool := match call Tryd.prog E0 20 106 #[.int .u64 (x : Int)] ⟨fun _ => none, 0, 0⟩ with
  | some (.int .i64 z, _) => z == (low x : Int)
  | _ => false

theorem tz_all : ((List.range 1024).all fun x => decide (x = 0) || tzOk x) = true := by decide +kernel

noncomputable def cntF (n : Int) : Int := match f117 (fun _ _ _ => none) 0 (.int .u64 n) ⟨fun _ => none, 0, 0⟩ with
  | some (.int _ z, _) => z
  | _ => 0

theorem f117_eq (n : Int) (h : H) : f117 rn 0 (.int .u64 n) h = some (iv (cntF n), h) := by kernel_rfl

theorem cnt_all : ((List.range 1024).all fun n => decide (cntF (n : Int) = (pop n : Int))) = true := by decide +kernel

theorem s106 {x : Nat} (h0 : 0 < x) (h1 : x < 1024) (h : H) : rn 106 #[.int .u64 x] h = some (iv (low x), h) := by
  have := List.all_eq_true.1 tz_all x (List.mem_range.2 h1)
  rw [Bool.or_eq_true, decide_eq_true_iff] at this
  have ht : tzOk x = true := by
    rcases this with h2 | h2
    · omega
    · exact h2
  unfold tzOk at ht
  split at ht
  · rename_i z h' hc
    have hz : z = (low x : Int) := by simpa using ht
    subst hz
    exact run_iso (n := 19) (by rfl) (iso_any (by rfl) hc)
  · cases ht

theorem s89 {x : Nat} (h0 : 0 < x) (h1 : x < 1024) (h : H) : rn 89 #[.int .u64 x] h = some (iv (low x), h) := by
  refine p89 (k := 0) ?_ rfl (.refl _)
  unfold f89
  rw [calls_eq (xs := [.int .u64 x]) (s106 h0 h1 h), asI_int]

theorem s109 {x : Nat} (h1 : x < 1024) (h : H) : rn 109 #[.int .u64 x] h = some (iv (pop x), h) := by
  have hp : cntF x = (pop x : Int) := of_decide_eq_true (List.all_eq_true.1 cnt_all x (List.mem_range.2 h1))
  have e117 : rn 117 #[.int .u64 x] h = some (iv (pop x), h) := by
    rw [← hp]
    exact p117 (k := 0) (f117_eq x h) rfl (.refl _)
  refine p109 (k := 0) ?_ rfl (.refl _)
  unfold f109
  rw [calls_eq (xs := [.int .u64 x]) e117, asI_int]

end Go.AM
