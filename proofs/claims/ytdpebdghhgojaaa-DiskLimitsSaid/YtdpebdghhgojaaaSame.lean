/- The walk of same: a desk whose disk and model have one state is the same on both sides. -/
import Derived.Test.YtdpebdghhgojaaaDo
import Derived.BigQuiet
import Derived.Deep.QuietTactic
namespace Go.Proofs.Ytdpebdghhgojaaa
open Go.RowKit

set_option maxRecDepth 100000 in
set_option maxHeartbeats 1000000 in
theorem same_any (fp : Nat → Prop) (x : Nat) (d : DS) (w : World) (hd : DeskAt w fp x d) :
    Calls Try.prog 27 #[.pointer (some ⟨x, 0, none⟩)] w fun e w' => e = .returned (.bool true) ∧ Only Nob w w' := by
  obtain ⟨hlt, fd, fr, db, rb, hi⟩ := hd
  have hi0 := hi.other (Only.drew Nob w) (fun _ _ h => h)
  obtain ⟨c0, c1⟩ := hi.hdr.cells
  go_enter Try.func27, Try.ntmps27
  go_wp2_with fail
  go_region_held3 (fun w' => w'.cell? ⟨x, 0, none⟩ = some (.pointer (some ⟨db, 0, none⟩)) ∧ w'.cell? ⟨x, 1, none⟩ = some (.pointer (some ⟨rb, 0, none⟩)))
    (first | exact ⟨‹_›, ‹_›⟩ | go_keep)
    (first
      | (go_at_call 23; refine (size_any fd db d _ hi0.disk).mono ?_; rintro e w' ⟨rfl, rfl⟩)
      | (go_at_call 24; refine (rsize_any fr rb d _ hi0.ref).mono ?_; rintro e w' ⟨rfl, rfl⟩)
      | (go_at_call 25; refine (calls_any fd db d _ hi0.disk).mono ?_; rintro e w' ⟨rfl, rfl⟩)
      | (go_at_call 26; refine (rcalls_any fr rb d _ hi0.ref).mono ?_; rintro e w' ⟨rfl, rfl⟩)
      | (go_at_call 35; refine (read_all fd db 0 33554432 d _ hi0.disk (by unfold Rng; omega) (by unfold Rng; omega)).mono ?_; rintro e w2 ⟨rfl, o2⟩; have hi2 := hi0.other o2 (fun _ _ h => h); obtain ⟨e0, e1⟩ := hi2.hdr.cells)
      | (go_at_call 37; refine (rread_all fr rb 0 33554432 d _ hi2.ref (by unfold Rng; omega) (by unfold Rng; omega)).mono ?_; rintro e w3 ⟨rfl, o3⟩; have hi3 := hi2.other o3 (fun _ _ h => h); obtain ⟨m0, m1⟩ := hi3.hdr.cells))
  go_wp2
  go_ret
  exact ⟨by simp, (Only.drew Nob w).trans (o2.trans o3 (fun _ _ h => h)) (fun _ _ h => h)⟩
end Go.Proofs.Ytdpebdghhgojaaa
