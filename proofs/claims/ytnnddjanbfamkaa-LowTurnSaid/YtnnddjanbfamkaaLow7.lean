/- The walk of package low: any deed. -/
import Derived.Test.YtnnddjanbfamkaaLow5
import Derived.Test.YtnnddjanbfamkaaLow6
namespace Go.Proofs.Ytnnddjanbfamkaa
open Go Go.RowKit
set_option linter.unusedVariables false

theorem do_any (S K : Nat) (Ac At AM AF : Option Addr) (nc c1 nt c2 cM cF : Nat) (s : MSt) (clear things : List Lab) (d : Dd) (w0 w : World) (hw : LSt w0 w S K Ac At AM AF nc c1 nt c2 cM cF s) (hc : SlLab w0 Ac nc clear) (hs : SlLab w0 At nt things) :
    Calls Try.prog 48 #[.pointer (some ⟨S, 0, none⟩), .agg #[.int .i64 d.1, .int .i64 d.2.1, .int .i64 d.2.2.1, .int .i64 d.2.2.2.1, .int .u32 (W d.2.2.2.2.1), .int .i64 d.2.2.2.2.2]] w (RetLow w0 w S K Ac At AM AF nc c1 nt c2 cM cF (lowDo nc nt (lab clear) (lab things) s d)) := by
  by_cases hb : deedF nc nt d = 0
  · obtain ⟨kd, by_, to_, lv, pt, vl⟩ := d
    rcases deedF_zero hb with ⟨h3, u, hu, hun⟩ | ⟨h12, u, t, hu, hun, ht, htn⟩
    · obtain rfl : kd = 3 := h3
      obtain rfl : by_ = u := hu
      exact do_drop S K Ac At AM AF nc c1 nt c2 cM cF s clear things u to_ lv pt vl w0 w hw hc hun
    · obtain rfl : by_ = u := hu
      obtain rfl : to_ = t := ht
      rcases h12 with h1 | h2
      · obtain rfl : kd = 1 := h1
        exact do_read S K Ac At AM AF nc c1 nt c2 cM cF s clear things u t lv pt vl w0 w hw hs hun htn
      · obtain rfl : kd = 2 := h2
        exact do_write S K Ac At AM AF nc c1 nt c2 cM cF s clear things u t lv pt vl w0 w hw hs hun htn
  · exact do_bad S K Ac At AM AF nc c1 nt c2 cM cF s clear things d w0 w hw hb
end Go.Proofs.Ytnnddjanbfamkaa
