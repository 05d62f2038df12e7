/-
  Contracts of lateness where the delays' length is spelled in another way.
-/
import Derived.Test.YtjpjglpabnlobaaLate2
namespace Go.Proofs.Ytjpjglpabnlobaa
open Go.RowKit

theorem iEnd_len (n : Int) (A : Option Addr) (c lo hi : Nat) (l : List T3) (least start : Int) (B : Option Addr) (d lo' hi' : Nat) (ds : List Int) (m : Nat) (hm : ds.length = m) (w : World) (hl : l.length ≤ 1048576) (hr : Rd w lo hi A (flat3 l)) (hh : hi ≤ w.heap.size) (hld : ds.length ≤ 1048576) (hrd : Rd w lo' hi' B (ints ds)) (hhd : hi' ≤ w.heap.size) (hcap : l.length ≤ c) :
    Calls Try.prog 13 #[.int .i64 n, .slice A l.length c, .int .i64 least, .int .i64 start, .slice B m d] w fun e w' => e = .returned (.int .i64 (endV n l least start ds)) ∧ Below w.heap.size w w' := by
  subst hm; exact iEnd_any n A c lo hi l least start B d lo' hi' ds w hl hr hh hld hrd hhd hcap
theorem iSum_len (n : Int) (A : Option Addr) (c lo hi : Nat) (l : List T3) (least start : Int) (B : Option Addr) (d lo' hi' : Nat) (ds : List Int) (m : Nat) (hm : ds.length = m) (w : World) (hl : l.length ≤ 1048576) (hr : Rd w lo hi A (flat3 l)) (hh : hi ≤ w.heap.size) (hld : ds.length ≤ 1048576) (hrd : Rd w lo' hi' B (ints ds)) (hhd : hi' ≤ w.heap.size) (hcap : l.length ≤ c) :
    Calls Try.prog 25 #[.int .i64 n, .slice A l.length c, .int .i64 least, .int .i64 start, .slice B m d] w fun e w' => e = .returned (.int .i64 (sumV n l least start ds)) ∧ Below w.heap.size w w' := by
  subst hm; exact iSum_any n A c lo hi l least start B d lo' hi' ds w hl hr hh hld hrd hhd hcap

end Go.Proofs.Ytjpjglpabnlobaa
