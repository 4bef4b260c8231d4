/- What the parts of wal.anew and wal.more do. -/
import Derived.Test.YtipbfmalacnmkaaGreatChain
namespace Go.Proofs.YtipbfmalacnmkaaGreat
open Go.RowKit Go.Shelf

def sWal : Value := .string ⟨#[119, 97, 108]⟩
def sNew : Value := .string ⟨#[119, 97, 108, 46, 110, 101, 119]⟩

set_option maxRecDepth 10000 in
theorem anew1_calls {w : World} {d m : Nat} {k : Dk} (hd : DiskAt w d m k) (hfu : k.fuseOk) (c0 g : Nat) (p0 : w.cell? ⟨c0, 0, none⟩ = some (.pointer (some ⟨g, 0, none⟩))) (q0 : w.cell? ⟨g, 0, none⟩ = some (.pointer (some ⟨d, 0, none⟩))) :
    Calls Tryz.prog 57 #[.pointer (some ⟨c0, 0, none⟩)] w fun e w' => e = .returned (.int .i64 k.clear.1) ∧ DiskAt w' d m k.clear.2 ∧ Ext [d, m] w w' := by
  have hr := clear_calls hd hfu
  go_enter Tryz.func57, Tryz.ntmps57
  go_wp2_with (go_at_call 40; refine hr.mono ?_; rintro e w' ⟨rfl, h1, h2⟩)
  go_ret
  exact ⟨rfl, h1, h2⟩
set_option maxRecDepth 10000 in
theorem anew3_calls {w : World} {d m : Nat} {k : Dk} (hd : DiskAt w d m k) (hfu : k.fuseOk) (c0 g : Nat) (p0 : w.cell? ⟨c0, 0, none⟩ = some (.pointer (some ⟨g, 0, none⟩))) (q0 : w.cell? ⟨g, 0, none⟩ = some (.pointer (some ⟨d, 0, none⟩))) :
    Calls Tryz.prog 59 #[.pointer (some ⟨c0, 0, none⟩)] w fun e w' => e = .returned (.int .i64 (k.sync .new).1) ∧ DiskAt w' d m (k.sync .new).2 ∧ Ext [d, m] w w' := by
  have hr := Sync_calls hd hfu .new
  change Calls Tryz.prog 26 #[.pointer (some ⟨d, 0, none⟩), .string ⟨#[119, 97, 108, 46, 110, 101, 119]⟩] w _ at hr
  go_enter Tryz.func59, Tryz.ntmps59
  go_wp2_with (go_at_call 26; refine hr.mono ?_; rintro e w' ⟨rfl, h1, h2⟩)
  go_ret
  exact ⟨rfl, h1, h2⟩
set_option maxRecDepth 10000 in
theorem anew4_calls {w : World} {d m : Nat} {k : Dk} (hd : DiskAt w d m k) (hfu : k.fuseOk) (c0 g : Nat) (p0 : w.cell? ⟨c0, 0, none⟩ = some (.pointer (some ⟨g, 0, none⟩))) (q0 : w.cell? ⟨g, 0, none⟩ = some (.pointer (some ⟨d, 0, none⟩))) :
    Calls Tryz.prog 60 #[.pointer (some ⟨c0, 0, none⟩)] w fun e w' => e = .returned (.int .i64 (k.rename .new .wal).1) ∧ DiskAt w' d m (k.rename .new .wal).2 ∧ Ext [d, m] w w' := by
  have hr := Rename_calls hd hfu .new .wal
  change Calls Tryz.prog 61 #[.pointer (some ⟨d, 0, none⟩), .string ⟨#[119, 97, 108, 46, 110, 101, 119]⟩, .string ⟨#[119, 97, 108]⟩] w _ at hr
  go_enter Tryz.func60, Tryz.ntmps60
  go_wp2_with (go_at_call 61; refine hr.mono ?_; rintro e w' ⟨rfl, h1, h2⟩)
  go_ret
  exact ⟨rfl, h1, h2⟩
set_option maxRecDepth 10000 in
theorem more2_calls {w : World} {d m : Nat} {k : Dk} (hd : DiskAt w d m k) (hfu : k.fuseOk) (c0 g : Nat) (p0 : w.cell? ⟨c0, 0, none⟩ = some (.pointer (some ⟨g, 0, none⟩))) (q0 : w.cell? ⟨g, 0, none⟩ = some (.pointer (some ⟨d, 0, none⟩))) :
    Calls Tryz.prog 64 #[.pointer (some ⟨c0, 0, none⟩)] w fun e w' => e = .returned (.int .i64 (k.sync .wal).1) ∧ DiskAt w' d m (k.sync .wal).2 ∧ Ext [d, m] w w' := by
  have hr := Sync_calls hd hfu .wal
  change Calls Tryz.prog 26 #[.pointer (some ⟨d, 0, none⟩), .string ⟨#[119, 97, 108]⟩] w _ at hr
  go_enter Tryz.func64, Tryz.ntmps64
  go_wp2_with (go_at_call 26; refine hr.mono ?_; rintro e w' ⟨rfl, h1, h2⟩)
  go_ret
  exact ⟨rfl, h1, h2⟩
set_option maxRecDepth 10000 in
set_option maxHeartbeats 600000 in
theorem anew2_calls {w : World} {d m : Nat} {k : Dk} (hd : DiskAt w d m k) (hfu : k.fuseOk) (c0 c1 g : Nat) (bv : Value) (bs : List UInt8) (p0 : w.cell? ⟨c0, 0, none⟩ = some (.pointer (some ⟨g, 0, none⟩))) (q0 : w.cell? ⟨g, 0, none⟩ = some (.pointer (some ⟨d, 0, none⟩)))
    (p1 : w.cell? ⟨c1, 0, none⟩ = some bv) (hb : RdB w.heap.size w bv bs) (hsz : (k.get .new).b.length + bs.length ≤ 1099511627776) :
    Calls Tryz.prog 58 #[.pointer (some ⟨c0, 0, none⟩), .pointer (some ⟨c1, 0, none⟩)] w fun e w' => e = .returned (.int .i64 (k.append .new bs).1) ∧ DiskAt w' d m (k.append .new bs).2 ∧ Ext [d, m] w w' := by
  have hr := Append_calls (w := w.drew) (hd.nil ((Ext.refl [] w).drewN 1)) hfu .new bv bs hb hsz
  change Calls Tryz.prog 19 #[.pointer (some ⟨d, 0, none⟩), .string ⟨#[119, 97, 108, 46, 110, 101, 119]⟩, bv] w.drew _ at hr
  obtain ⟨ab, cb, rfl, _, _⟩ := hb.shape
  have HR := Lib.hid hr
  clear hr
  go_enter Tryz.func58, Tryz.ntmps58
  go_upto_region 1 with fail
  go_region_with (go_at_call 19; refine HR.out.mono ?_; rintro e w' ⟨rfl, h1, h2⟩)
  all_goals
    go_wp2_with fail
    go_ret
    exact ⟨rfl, h1, ((Ext.refl [d, m] w).drewN 1).trans h2⟩
set_option maxRecDepth 10000 in
set_option maxHeartbeats 600000 in
theorem more1_calls {w : World} {d m : Nat} {k : Dk} (hd : DiskAt w d m k) (hfu : k.fuseOk) (c0 c1 g : Nat) (bv : Value) (bs : List UInt8) (p0 : w.cell? ⟨c0, 0, none⟩ = some (.pointer (some ⟨g, 0, none⟩))) (q0 : w.cell? ⟨g, 0, none⟩ = some (.pointer (some ⟨d, 0, none⟩)))
    (p1 : w.cell? ⟨c1, 0, none⟩ = some bv) (hb : RdB w.heap.size w bv bs) (hsz : (k.get .wal).b.length + bs.length ≤ 1099511627776) :
    Calls Tryz.prog 63 #[.pointer (some ⟨c0, 0, none⟩), .pointer (some ⟨c1, 0, none⟩)] w fun e w' => e = .returned (.int .i64 (k.append .wal bs).1) ∧ DiskAt w' d m (k.append .wal bs).2 ∧ Ext [d, m] w w' := by
  have hr := Append_calls (w := w.drew) (hd.nil ((Ext.refl [] w).drewN 1)) hfu .wal bv bs hb hsz
  change Calls Tryz.prog 19 #[.pointer (some ⟨d, 0, none⟩), .string ⟨#[119, 97, 108]⟩, bv] w.drew _ at hr
  obtain ⟨ab, cb, rfl, _, _⟩ := hb.shape
  have HR := Lib.hid hr
  clear hr
  go_enter Tryz.func63, Tryz.ntmps63
  go_upto_region 1 with fail
  go_region_with (go_at_call 19; refine HR.out.mono ?_; rintro e w' ⟨rfl, h1, h2⟩)
  all_goals
    go_wp2_with fail
    go_ret
    exact ⟨rfl, h1, ((Ext.refl [d, m] w).drewN 1).trans h2⟩
set_option maxRecDepth 10000 in
theorem anew5_calls {w : World} (c0 c1 g : Nat) (ab : Option Addr) (n cb : Nat) (sz : Int) (p0 : w.cell? ⟨c0, 0, none⟩ = some (.pointer (some ⟨g, 0, none⟩))) (p1 : w.cell? ⟨c1, 0, none⟩ = some (.slice ab n cb))
    (q4 : w.cell? ⟨g, 4, none⟩ = some (.int .i64 sz)) (f4 : w.frozen? ⟨g, 4, none⟩ = false) :
    Calls Tryz.prog 62 #[.pointer (some ⟨c1, 0, none⟩), .pointer (some ⟨c0, 0, none⟩)] w fun e w' => e = .returned (.int .i64 0) ∧ w' = w.setCell ⟨g, 4, none⟩ (.int .i64 n) := by
  go_enter Tryz.func62, Tryz.ntmps62
  go_wp2_with fail
  go_ret
  exact ⟨rfl, rfl⟩
set_option maxRecDepth 10000 in
theorem more3_calls {w : World} (c0 c1 g : Nat) (ab : Option Addr) (n cb : Nat) (sz : Nat) (p0 : w.cell? ⟨c0, 0, none⟩ = some (.pointer (some ⟨g, 0, none⟩))) (p1 : w.cell? ⟨c1, 0, none⟩ = some (.slice ab n cb))
    (q4 : w.cell? ⟨g, 4, none⟩ = some (.int .i64 sz)) (f4 : w.frozen? ⟨g, 4, none⟩ = false) (hn : n ≤ 1099511627776) (hsz : sz ≤ 1099511627776) :
    Calls Tryz.prog 65 #[.pointer (some ⟨c0, 0, none⟩), .pointer (some ⟨c1, 0, none⟩)] w fun e w' => e = .returned (.int .i64 0) ∧ w' = w.drew.setCell ⟨g, 4, none⟩ (.int .i64 (sz + n : Nat)) := by
  have hs : ((sz + n : Nat) : Int) = (sz : Int) + n := by omega
  rw [hs]
  go_enter Tryz.func65, Tryz.ntmps65
  go_upto_region 1 with fail
  go_region
  all_goals
    go_wp2
    go_ret
    exact ⟨rfl, rfl⟩
end Go.Proofs.YtipbfmalacnmkaaGreat
