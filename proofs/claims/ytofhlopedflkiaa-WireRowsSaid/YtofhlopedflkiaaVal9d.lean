/-
  The walk of wire's shape: value, whatever the shape is.
-/
import Derived.Test.YtofhlopedflkiaaVal9b
import Derived.Test.YtofhlopedflkiaaVal9c
namespace Go.Proofs.Ytofhlopedflkiaa
open Go.RowKit Go.Shr
theorem sh_mem : ∀ {ks : List Sh} {s : Sh}, s ∈ ks → s.size ≤ shSizes ks
  | x :: q, s, h => by
    rcases List.mem_cons.1 h with rfl | h
    · simp [shSizes]
    · have := sh_mem h; simp only [shSizes]; omega
theorem val_w (B : Nat) (sa : Option Addr) (scap bk : Nat) (l : List Fl) (hlen : l.length ≤ 1000) : ∀ (N : Nat) (s : Sh), s.size ≤ N → ValW B sa scap bk l s
  | 0, .mk _ _ _ _, h => by simp [Sh.size] at h
  | N + 1, .mk nm rp kd ks, h => by
    have hA : ∀ s ∈ ks, AllW B sa scap bk l s := fun s hs => all_w B sa scap bk l s (val_w B sa scap bk l hlen N s (by have := sh_mem hs; simp only [Sh.size] at h; omega))
    by_cases c1 : kd = 1
    · exact value_w1 B sa scap bk l nm rp kd ks hlen hA c1
    by_cases c2 : kd = 2
    · exact value_w2 B sa scap bk l nm rp kd ks hlen hA c1 c2
    by_cases c3 : kd = 3
    · exact value_w3 B sa scap bk l nm rp kd ks hlen hA c1 c2 c3
    by_cases c4 : kd = 4
    · exact value_w4 B sa scap bk l nm rp kd ks hlen hA c1 c2 c3 c4
    exact value_w5 B sa scap bk l nm rp kd ks hlen hA c1 c2 c3 c4
end Go.Proofs.Ytofhlopedflkiaa
