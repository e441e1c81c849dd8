/- The hints of the functions of this translation, printed by a program of this session (wip/tools/mkhints.py): slots that a loop carries and keeps, an order of looking at each region that draws one. -/
import Derived.Test.YtdfjfagljngciaaGreatDoorRx
import Derived.Test.YtdfjfagljngciaaGreatDoorProg
namespace Go.Proofs.YtdfjfagljngciaaGreatDoor
theorem Tryz.mixed : Tryz.prog.follows .mixedOrders = true := by kernel_rfl
/- gosem.cut.init -/
@[go_sem] def h2 : Rx.Hints := {}
/- sump/sumplaw16.StateBack -/
@[go_sem] def h3 : Rx.Hints := { loops := [(7, ⟨[43], [4, 5, 7, 8, 41, 42]⟩)], plans := [(12, .take 0 (.take 1 (.alt 2 (.act 3 (.act 4 (.fin 5 .done))) (.act 3 (.act 2 (.act 4 (.fin 5 .done))))))), (21, .take 0 (.take 1 (.take 2 (.take 4 (.take 5 (.act 3 (.act 6 (.take 7 (.take 8 (.take 9 (.take 10 (.take 11 .done)))))))))))), (28, .take 0 (.take 1 (.take 2 (.take 3 (.take 4 (.take 5 (.take 6 (.take 7 (.take 8 (.act 9 (.act 10 (.act 11 (.act 12 (.act 13 (.fin 14 (.fin 15 .done))))))))))))))))] }
/- sump/sumplaw16.StateFinds -/
@[go_sem] def h4 : Rx.Hints := { plans := [(12, .take 0 (.take 1 (.take 2 (.take 3 (.take 4 (.take 5 (.take 6 (.take 7 (.take 8 (.take 9 (.take 10 (.take 11 (.take 12 (.take 13 (.take 14 (.act 15 (.take 16 (.take 17 (.take 18 .done)))))))))))))))))))] }
/- sump/sumplaw16.StateRight -/
@[go_sem] def h5 : Rx.Hints := { loops := [(7, ⟨[33], [3, 5, 31, 32]⟩)], plans := [(23, .take 0 (.act 1 (.take 2 (.take 3 (.take 5 (.act 4 (.take 6 (.take 7 (.take 8 (.take 9 (.take 11 (.act 10 (.take 12 (.take 13 (.take 14 (.take 15 (.take 16 (.take 17 (.take 18 (.take 19 (.take 20 (.take 21 (.take 22 (.take 23 (.take 24 (.take 25 (.take 26 (.take 27 (.act 28 (.take 29 (.take 30 (.take 31 (.take 32 (.take 33 (.take 36 (.take 39 (.take 43 (.act 34 (.take 35 (.act 37 (.take 38 (.act 40 (.take 41 (.take 42 (.act 44 (.take 45 (.take 46 (.take 47 (.take 48 (.take 49 (.take 50 (.act 51 (.act 52 (.take 53 (.take 54 .done)))))))))))))))))))))))))))))))))))))))))))))))))))))))] }
/- sump/sumplaw16.awake -/
@[go_sem] def h6 : Rx.Hints := {}
/- sump/sumplaw16.Few -/
@[go_sem] def h7 : Rx.Hints := { loops := [(3, ⟨[3, 8], [0, 6, 7]⟩)] }
/- sump/state.New -/
@[go_sem] def h8 : Rx.Hints := { plans := [(2, .take 0 (.take 1 (.take 2 (.take 3 (.act 4 (.fin 5 .done))))))] }
/- sump/sumpref16.New -/
@[go_sem] def h9 : Rx.Hints := {}
/- (*sump/state.State).Apply -/
@[go_sem] def h10 : Rx.Hints := {}
/- (*sump/sumpref16.State).Apply -/
@[go_sem] def h11 : Rx.Hints := { plans := [(7, .take 0 (.take 1 (.take 2 (.take 3 (.take 4 (.take 5 (.take 6 (.take 7 (.take 8 (.take 9 (.take 10 (.take 11 (.fin 12 (.fin 13 (.fin 14 (.fin 15 .done))))))))))))))))] }
/- sump/sumplaw16.Alike -/
@[go_sem] def h12 : Rx.Hints := { blanks := [(7, .take 0 (.take 1 (.take 2 (.take 3 (.take 4 (.take 5 (.act 6 (.act 7 (.fin 8 (.fin 9 (.fin 10 .done)))))))))))] }
/- sump/sumpref09.Find -/
@[go_sem] def h13 : Rx.Hints := { loops := [(2, ⟨[10], [1, 8, 9]⟩)] }
/- sump/sumplaw16.names -/
@[go_sem] def h14 : Rx.Hints := {}
/- sump/sumplaw16.Done -/
@[go_sem] def h15 : Rx.Hints := { loops := [(3, ⟨[12], [4, 5, 10, 11]⟩)] }
/- (*sump/state.State).Find -/
@[go_sem] def h16 : Rx.Hints := { loops := [(8, ⟨[8, 27], [0, 25, 26]⟩)] }
/- (*sump/sumpref16.State).Find -/
@[go_sem] def h17 : Rx.Hints := { loops := [(6, ⟨[8, 21], [0, 19, 20]⟩)] }
/- (*sump/state.State).Within -/
@[go_sem] def h18 : Rx.Hints := { loops := [(4, ⟨[1], [0, 2, 16]⟩)] }
/- (*sump/sumpref16.State).Within -/
@[go_sem] def h19 : Rx.Hints := { loops := [(2, ⟨[1, 12], [0, 2, 11]⟩)], plans := [(5, .take 0 (.take 1 (.act 2 (.take 3 (.take 4 (.take 5 (.take 6 (.take 7 (.take 8 (.take 9 (.take 10 (.take 15 (.act 11 (.take 12 (.take 13 (.act 14 (.take 16 (.take 17 .done)))))))))))))))))), (7, .take 0 (.take 1 (.take 2 (.take 3 (.take 4 (.take 5 (.act 6 (.take 7 (.take 8 (.act 9 (.take 10 .done)))))))))))] }
/- (*sump/state.State).Get -/
@[go_sem] def h20 : Rx.Hints := {}
/- (*sump/sumpref16.State).At -/
@[go_sem] def h21 : Rx.Hints := { loops := [(2, ⟨[12], [1, 10, 11]⟩)] }
/- sump/sumpref09.SameNode -/
@[go_sem] def h22 : Rx.Hints := {}
/- (*sump/state.State).Turn -/
@[go_sem] def h23 : Rx.Hints := { plans := [(5, .take 0 (.take 1 (.take 2 (.take 3 (.take 4 (.take 5 (.fin 6 .done)))))))] }
/- (*sump/state.State).Right -/
@[go_sem] def h24 : Rx.Hints := {}
/- (*sump/state.State).Copy -/
@[go_sem] def h25 : Rx.Hints := { plans := [(3, .take 0 (.take 1 (.take 2 (.take 3 (.take 5 (.take 6 (.take 7 (.take 8 (.act 4 (.take 9 (.act 10 (.take 11 .done))))))))))))] }
/- (*sump/state.State).Words -/
@[go_sem] def h26 : Rx.Hints := { plans := [(6, .take 0 (.take 1 (.act 2 (.take 3 (.fin 4 .done)))))] }
/- (*sump/state.State).Last -/
@[go_sem] def h27 : Rx.Hints := {}
/- (*sump/state.State).Nodes -/
@[go_sem] def h28 : Rx.Hints := {}
/- (*sump/state.State).Refs -/
@[go_sem] def h29 : Rx.Hints := { blanks := [(4, .take 0 (.take 1 (.act 2 (.fin 3 (.fin 4 .done)))))] }
/- (*sump/state.State).Orphans -/
@[go_sem] def h30 : Rx.Hints := {}
/- sump/sumplaw09.Few -/
@[go_sem] def h31 : Rx.Hints := { loops := [(2, ⟨[7], [0, 5, 6]⟩)] }
/- sump/inode.New -/
@[go_sem] def h32 : Rx.Hints := {}
/- (*sump/state.State).ok -/
@[go_sem] def h33 : Rx.Hints := {}
/- sump/effect.Check -/
@[go_sem] def h34 : Rx.Hints := { plans := [(5, .take 0 (.take 1 (.take 2 (.take 3 (.take 4 (.act 5 (.take 6 (.take 7 (.take 8 (.take 9 (.take 10 (.act 11 (.act 12 (.take 13 (.take 14 (.take 15 (.take 16 (.take 17 (.take 18 (.take 19 (.take 20 .done)))))))))))))))))))))] }
/- (*sump/state.State).does -/
@[go_sem] def h35 : Rx.Hints := {}
/- sump/sumpref09.Check -/
@[go_sem] def h36 : Rx.Hints := { rjoins := [(1, ⟨[3], [1]⟩), (2, ⟨[4], [1, 3]⟩), (3, ⟨[5], [1, 3, 4]⟩)] }
/- (*sump/sumpref16.State).Copy -/
@[go_sem] def h37 : Rx.Hints := { loops := [(3, ⟨[17], [3, 15, 16]⟩)], blanks := [(5, .take 0 (.take 1 (.take 2 (.take 3 (.take 4 (.take 5 (.act 6 (.act 7 (.fin 8 (.fin 9 (.fin 10 (.fin 11 .done))))))))))))] }
/- (*sump/sumpref16.State).does -/
@[go_sem] def h38 : Rx.Hints := { loops := [(48, ⟨[16, 255], [253, 254]⟩)], plans := [(4, .take 0 (.take 1 (.take 2 (.act 3 (.take 4 (.take 5 (.take 6 (.take 7 (.take 8 (.take 9 (.take 10 (.act 11 (.take 12 (.take 13 (.take 14 (.take 15 (.take 16 (.take 17 (.take 18 (.take 19 (.take 20 (.take 21 (.take 22 (.take 23 .done)))))))))))))))))))))))), (17, .take 0 (.take 1 (.take 2 (.take 3 (.take 4 (.take 5 (.take 6 (.act 7 (.take 8 (.take 9 (.act 10 (.take 11 (.take 12 (.take 13 (.fin 14 .done))))))))))))))), (31, .take 0 (.take 1 (.take 2 (.take 3 (.take 4 (.take 5 (.take 6 (.fin 7 .done)))))))), (39, .take 0 (.take 1 (.take 2 (.take 3 (.take 4 (.take 5 (.take 6 (.fin 7 .done))))))))], blanks := [(10, .take 0 (.take 1 (.take 2 (.take 3 (.take 4 (.take 5 (.act 6 (.fin 7 (.fin 8 (.fin 9 (.fin 10 .done)))))))))))], joins := [(7, ⟨[], [0, 4, 9]⟩)] }
/- sump/sumpref16.Same -/
@[go_sem] def h39 : Rx.Hints := { loops := [(4, ⟨[33], [0, 1, 32]⟩)], plans := [(1, .take 0 (.take 1 (.take 2 (.take 3 (.take 4 (.take 5 (.take 6 (.take 7 (.take 8 (.take 9 (.take 10 (.take 11 (.take 12 (.take 13 (.take 14 (.take 15 (.take 16 (.take 17 (.take 18 (.take 19 (.take 20 (.take 21 .done)))))))))))))))))))))), (6, .take 0 (.take 1 (.take 2 (.take 3 (.take 4 (.take 5 (.take 6 (.take 7 (.take 8 (.take 9 (.take 10 (.take 11 (.take 12 (.take 13 (.act 14 (.take 15 .done))))))))))))))))] }
/- sump/name.Split -/
@[go_sem] def h40 : Rx.Hints := { loops := [(7, ⟨[4, 17], [15, 16]⟩)] }
/- (*sump/state.State).dir -/
@[go_sem] def h41 : Rx.Hints := { blanks := [(2, .take 0 (.take 1 (.take 2 (.take 3 (.take 4 (.take 5 (.take 6 (.act 7 (.fin 8 .done)))))))))] }
/- sump/dirs.Find -/
@[go_sem] def h42 : Rx.Hints := {}
/- sump/sumpref01.Split -/
@[go_sem] def h43 : Rx.Hints := { loops := [(8, ⟨[4, 5, 6], [0]⟩)] }
/- (*sump/sumpref16.State).kind -/
@[go_sem] def h44 : Rx.Hints := {}
/- (*sump/sumpref16.State).named -/
@[go_sem] def h45 : Rx.Hints := { plans := [(3, .take 0 (.take 1 (.take 2 (.take 3 (.take 4 (.take 5 (.take 10 (.act 6 (.take 7 (.take 8 (.act 9 (.act 11 (.take 12 (.take 13 (.take 14 (.take 15 (.take 16 .done)))))))))))))))))] }
/- sump/inode.Copy -/
@[go_sem] def h46 : Rx.Hints := { plans := [(1, .take 0 (.take 1 (.take 3 (.take 4 (.act 2 (.take 6 (.fin 5 (.fin 7 (.fin 8 (.fin 9 .done))))))))))] }
/- sump/sumpref01.SameInts -/
@[go_sem] def h47 : Rx.Hints := { loops := [(4, ⟨[13], [0, 1, 12]⟩)], plans := [(6, .take 0 (.take 1 (.take 2 (.take 3 (.take 4 (.take 5 (.take 6 (.take 7 (.take 8 .done)))))))))] }
/- sump/sumpref09.SameEntries -/
@[go_sem] def h48 : Rx.Hints := { loops := [(4, ⟨[13], [0, 1, 12]⟩)], plans := [(6, .take 0 (.take 1 (.take 2 (.take 3 (.take 4 (.take 5 (.take 6 (.take 7 (.act 8 .done)))))))))] }
/- (*sump/state.State).named -/
@[go_sem] def h49 : Rx.Hints := { loops := [(8, ⟨[36], [1, 2, 3, 4, 5, 6, 34, 35]⟩)] }
/- slices.Sort[[]int,int] -/
@[go_sem] def h50 : Rx.Hints := {}
/- slices.Compact[[]int,int] -/
@[go_sem] def h51 : Rx.Hints := { loops := [(4, ⟨[3], [0]⟩), (9, ⟨[3, 5], [0, 4]⟩)], plans := [(6, .take 0 (.take 1 (.take 2 (.take 3 (.take 4 (.take 5 (.take 6 (.take 7 (.take 8 (.take 9 .done)))))))))), (11, .take 0 (.take 1 (.take 2 (.take 3 (.take 4 (.take 5 (.take 6 (.take 7 (.take 8 (.take 9 .done))))))))))] }
/- slices.Clone[[]int,int] -/
@[go_sem] def h52 : Rx.Hints := {}
/- maps.Clone[map[int]sump/api.Node,int,sump/api.Node] -/
@[go_sem] def h53 : Rx.Hints := {}
/- sump/inode.Words -/
@[go_sem] def h54 : Rx.Hints := { loops := [(3, ⟨[3, 13], [11, 12]⟩)] }
/- (*sump/state.State).Nodes$1 -/
@[go_sem] def h55 : Rx.Hints := { loops := [(1, ⟨[10], [0, 1, 8, 9]⟩)] }
/- (*sump/state.State).numbers -/
@[go_sem] def h56 : Rx.Hints := {}
/- sump/inode.Refs -/
@[go_sem] def h57 : Rx.Hints := {}
/- sump/effect.right -/
@[go_sem] def h58 : Rx.Hints := { blanks := [(4, .take 0 (.take 1 (.take 2 (.take 3 (.take 4 (.take 5 (.take 6 (.act 7 (.act 8 (.act 9 (.fin 10 (.fin 11 .done)))))))))))), (5, .take 0 (.take 1 (.take 2 (.take 3 (.take 4 (.act 5 (.take 6 (.take 7 (.take 8 (.take 9 (.take 10 (.take 11 (.take 12 (.take 13 (.take 14 (.take 15 (.act 16 (.fin 17 .done)))))))))))))))))), (9, .take 0 (.take 1 (.take 2 (.take 3 (.take 4 (.act 5 (.fin 6 (.fin 7 .done)))))))), (10, .take 0 (.take 1 (.take 2 (.take 3 (.take 4 (.act 5 (.fin 6 (.fin 7 .done)))))))), (12, .take 0 (.take 1 (.take 2 (.take 3 (.take 4 (.take 5 (.take 6 (.take 7 (.take 8 (.act 9 (.act 10 (.act 11 (.act 12 (.act 13 (.fin 14 (.fin 15 .done)))))))))))))))), (13, .take 0 (.take 1 (.take 2 (.take 3 (.take 4 (.act 5 (.take 6 (.take 7 (.take 8 (.take 9 (.take 10 (.act 11 (.take 12 (.fin 13 (.fin 14 .done))))))))))))))), (16, .take 0 (.take 1 (.take 2 (.take 3 (.take 4 (.take 5 (.take 6 (.take 7 (.take 8 (.act 9 (.fin 10 .done))))))))))), (18, .take 0 (.take 1 (.take 2 (.take 3 (.take 4 (.act 5 (.fin 6 (.fin 7 .done)))))))), (19, .take 0 (.take 1 (.take 2 (.take 3 (.take 4 (.take 5 (.take 6 (.take 7 (.take 8 (.take 9 (.take 10 (.take 11 (.take 12 (.take 13 (.take 14 (.take 15 (.take 16 (.take 17 (.take 18 (.take 19 (.take 20 (.take 21 (.act 22 (.fin 23 .done))))))))))))))))))))))))] }
/- sump/effect.node -/
@[go_sem] def h59 : Rx.Hints := {}
/- sump/effect.of -/
@[go_sem] def h60 : Rx.Hints := {}
/- (*sump/state.State).make -/
@[go_sem] def h61 : Rx.Hints := { plans := [(3, .take 0 (.take 1 (.take 2 (.take 3 (.take 4 (.take 5 (.take 6 (.take 7 (.take 8 (.take 9 (.take 10 (.take 11 (.take 12 (.take 13 (.take 14 (.take 15 .done)))))))))))))))), (6, .take 0 (.take 1 (.take 2 (.take 3 (.take 4 (.take 5 (.take 6 (.fin 7 .done)))))))), (7, .take 0 (.take 1 (.take 2 (.take 3 (.take 4 (.take 5 (.take 6 (.take 7 (.take 8 (.take 9 (.take 10 (.take 11 (.act 12 (.fin 13 .done))))))))))))))] }
/- (*sump/state.State).link -/
@[go_sem] def h62 : Rx.Hints := { blanks := [(8, .take 0 (.take 1 (.take 2 (.take 3 (.take 4 (.take 5 (.take 6 (.take 7 (.take 8 (.take 9 (.take 10 (.take 11 (.take 12 (.take 13 (.act 14 (.take 15 (.act 16 (.act 17 (.act 18 (.fin 19 .done))))))))))))))))))))] }
/- (*sump/state.State).remove -/
@[go_sem] def h63 : Rx.Hints := {}
/- (*sump/state.State).rename -/
@[go_sem] def h64 : Rx.Hints := { plans := [(14, .take 0 (.take 1 (.take 2 (.take 3 (.take 4 (.take 5 (.take 6 (.fin 7 .done)))))))), (17, .take 0 (.take 1 (.take 2 (.take 3 (.take 4 (.take 5 (.take 6 (.fin 7 .done)))))))), (21, .take 0 (.take 1 (.take 2 (.take 3 (.take 4 (.take 5 (.take 6 (.fin 7 .done))))))))], joins := [(5, ⟨[], [0, 3, 5, 9, 11]⟩), (7, ⟨[], [0, 3, 5, 9, 11]⟩)] }
/- (*sump/state.State).trunc -/
@[go_sem] def h65 : Rx.Hints := { plans := [(5, .take 0 (.take 1 (.take 2 (.take 3 (.take 4 (.take 5 (.take 6 (.fin 7 .done))))))))] }
/- (*sump/state.State).write -/
@[go_sem] def h66 : Rx.Hints := { plans := [(5, .take 0 (.take 1 (.take 2 (.take 3 (.take 4 (.take 5 (.take 6 (.fin 7 .done))))))))] }
/- (*sump/state.State).drop -/
@[go_sem] def h67 : Rx.Hints := { plans := [(4, .take 0 (.take 1 (.take 2 (.take 3 (.take 4 (.take 5 (.fin 6 .done)))))))] }
/- sump/sumpref09.number -/
@[go_sem] def h68 : Rx.Hints := {}
/- sump/sumpref01.Name -/
@[go_sem] def h69 : Rx.Hints := { loops := [(4, ⟨[3], [0]⟩)] }
/- sump/sumpref09.CopyNode -/
@[go_sem] def h70 : Rx.Hints := {}
/- (*sump/sumpref16.State).put -/
@[go_sem] def h71 : Rx.Hints := { plans := [(1, .take 0 (.take 1 (.take 2 (.take 3 (.take 4 (.take 5 (.take 6 (.take 7 (.take 8 (.take 9 (.take 10 (.take 11 (.take 12 (.take 13 (.take 14 (.act 15 (.take 16 (.take 17 (.take 18 (.take 19 (.take 20 (.fin 21 .done))))))))))))))))))))))] }
/- (*sump/sumpref16.State).off -/
@[go_sem] def h72 : Rx.Hints := {}
/- (*sump/sumpref16.State).rename -/
@[go_sem] def h73 : Rx.Hints := { plans := [(2, .take 0 (.take 1 (.take 2 (.take 3 (.take 4 (.take 5 (.take 6 (.take 7 (.take 9 (.take 10 (.act 8 (.take 11 (.take 12 (.take 13 (.take 14 (.take 15 (.take 16 (.act 17 (.take 18 (.take 19 (.take 20 (.take 21 (.take 22 (.take 23 (.take 24 (.take 25 (.take 26 (.take 27 (.take 28 (.act 29 (.take 30 (.take 31 .done)))))))))))))))))))))))))))))))), (11, .take 0 (.take 1 (.take 2 (.take 3 (.take 4 (.take 5 (.take 6 (.take 8 (.take 9 (.act 7 (.take 10 (.take 11 (.fin 12 .done)))))))))))))], joins := [(2, ⟨[], [0, 3, 5]⟩), (4, ⟨[], [0, 3, 5]⟩)] }
/- sump/sumpref09.Resize -/
@[go_sem] def h74 : Rx.Hints := { loops := [(8, ⟨[7, 8], [1, 2, 4, 6]⟩)], joins := [(11, ⟨[9], [1, 2, 4, 6, 7, 8]⟩)] }
/- (*sump/sumpref16.State).remove -/
@[go_sem] def h75 : Rx.Hints := { plans := [(1, .take 0 (.take 1 (.take 2 (.take 3 (.take 4 (.take 5 (.take 6 (.take 7 (.take 8 (.take 9 (.take 10 (.take 11 (.take 12 (.take 13 (.take 14 (.fin 15 (.fin 16 (.fin 17 (.fin 18 .done)))))))))))))))))))] }
/- strings.HasPrefix -/
@[go_sem] def h76 : Rx.Hints := {}
/- strings.Split -/
@[go_sem] def h77 : Rx.Hints := {}
/- sump/name.Check -/
@[go_sem] def h78 : Rx.Hints := {}
/- sump/dirs.place -/
@[go_sem] def h79 : Rx.Hints := { loops := [(2, ⟨[9], [1, 7, 8]⟩)] }
/- slices.Clone[[]sump/api.Entry,sump/api.Entry] -/
@[go_sem] def h80 : Rx.Hints := {}
/- sump/inode.Right -/
@[go_sem] def h81 : Rx.Hints := { plans := [(5, .take 0 (.take 1 (.take 2 (.take 3 (.take 4 (.take 5 (.take 6 (.take 7 (.take 8 (.take 9 (.take 10 (.take 11 (.take 12 (.take 13 (.take 14 (.take 15 (.take 16 (.take 17 (.take 18 (.take 19 (.take 20 (.take 21 (.take 22 (.take 23 (.take 24 (.act 25 (.take 26 (.take 27 (.take 28 .done)))))))))))))))))))))))))))))] }
/- sump/dirs.Right -/
@[go_sem] def h82 : Rx.Hints := { loops := [(2, ⟨[7], [0, 5, 6]⟩)], plans := [(6, .take 0 (.take 1 (.take 2 (.take 3 (.take 4 (.take 5 (.take 6 (.take 7 (.take 8 (.take 9 (.take 10 (.act 11 (.take 12 (.take 13 .done))))))))))))))] }
/- slices.pdqsortOrdered[int] -/
@[go_sem] def h83 : Rx.Hints := { loops := [(2, ⟨[1, 2, 3, 8, 9], [0]⟩)], plans := [(17, .take 0 (.take 1 (.take 2 (.take 3 (.take 4 (.take 5 (.take 6 (.take 7 (.take 8 (.take 9 (.take 10 (.take 11 (.act 12 (.take 13 (.take 14 .done)))))))))))))))] }
/- math/bits.Len -/
@[go_sem] def h84 : Rx.Hints := {}
/- sump/words.Need -/
@[go_sem] def h86 : Rx.Hints := {}
/- slices.Sorted[int] -/
@[go_sem] def h87 : Rx.Hints := {}
/- maps.Keys[map[int]sump/api.Node,int,sump/api.Node] -/
@[go_sem] def h88 : Rx.Hints := {}
/- sump/inode.some -/
@[go_sem] def h89 : Rx.Hints := { scopes := [(1, (0, ⟨[3, 4], [0]⟩))] }
/- sump/effect.place -/
@[go_sem] def h90 : Rx.Hints := {}
/- sump/dirs.Put -/
@[go_sem] def h91 : Rx.Hints := { plans := [(6, .take 0 (.take 2 (.take 3 (.take 4 (.take 5 (.alt 1 (.act 6 (.act 7 (.take 8 (.take 9 .done)))) (.act 6 (.act 1 (.act 7 (.take 8 (.take 9 .done)))))))))))] }
/- (*sump/state.State).file -/
@[go_sem] def h92 : Rx.Hints := { blanks := [(2, .take 0 (.take 1 (.take 2 (.take 3 (.take 4 (.take 5 (.take 6 (.act 7 (.fin 8 .done)))))))))] }
/- (*sump/state.State).may -/
@[go_sem] def h93 : Rx.Hints := {}
/- (*sump/state.State).off -/
@[go_sem] def h94 : Rx.Hints := { plans := [(2, .take 0 (.take 1 (.take 2 (.take 3 (.take 4 (.take 5 (.fin 6 .done))))))), (7, .take 0 (.take 1 (.take 2 (.take 3 (.take 4 (.take 5 (.fin 6 .done)))))))] }
/- sump/dirs.Drop -/
@[go_sem] def h95 : Rx.Hints := {}
/- sump/inode.Resize -/
@[go_sem] def h96 : Rx.Hints := { loops := [(10, ⟨[], [2, 4, 6]⟩)] }
/- sump/inode.Put -/
@[go_sem] def h97 : Rx.Hints := {}
/- sump/sumpref09.PutEntry -/
@[go_sem] def h98 : Rx.Hints := { loops := [(7, ⟨[10, 11, 24], [1, 2, 22, 23]⟩)], joins := [(9, ⟨[10, 11], [1, 2, 13, 22, 23, 24]⟩)] }
/- (*sump/sumpref16.State).cut -/
@[go_sem] def h99 : Rx.Hints := { plans := [(1, .take 0 (.take 1 (.take 2 (.take 3 (.take 4 (.take 5 (.take 6 (.take 7 (.take 8 (.take 9 (.take 10 (.take 11 (.take 12 (.take 13 (.act 14 (.take 15 (.take 16 (.take 17 (.take 18 (.take 19 (.fin 20 .done)))))))))))))))))))))] }
/- sump/sumpref09.Need -/
@[go_sem] def h100 : Rx.Hints := {}
/- internal/stringslite.HasPrefix -/
@[go_sem] def h101 : Rx.Hints := {}
/- strings.genSplit -/
@[go_sem] def h102 : Rx.Hints := { loops := [(11, ⟨[0, 10], [1, 2, 3, 9]⟩)] }
/- strings.Contains -/
@[go_sem] def h103 : Rx.Hints := {}
/- sump/inode.node -/
@[go_sem] def h104 : Rx.Hints := {}
/- sump/inode.Need -/
@[go_sem] def h105 : Rx.Hints := {}
/- sump/name.Less -/
@[go_sem] def h106 : Rx.Hints := {}
/- slices.insertionSortOrdered[int] -/
@[go_sem] def h107 : Rx.Hints := { loops := [(1, ⟨[6], [0, 1, 2]⟩), (4, ⟨[7], [0, 1, 2, 6]⟩)], plans := [(4, .take 0 (.take 1 (.take 2 (.take 3 (.take 4 (.take 5 (.take 6 (.take 7 (.take 8 (.take 9 (.take 10 (.take 11 (.take 12 (.act 13 (.take 14 .done))))))))))))))), (6, .take 0 (.take 1 (.take 2 (.take 3 (.take 4 (.take 5 (.take 6 (.take 7 (.take 8 (.take 9 (.take 10 (.take 11 (.take 12 (.take 13 (.take 14 (.fin 15 (.fin 16 (.fin 17 .done))))))))))))))))))] }
/- slices.heapSortOrdered[int] -/
@[go_sem] def h108 : Rx.Hints := { loops := [(4, ⟨[9], [0, 6, 7, 8]⟩), (8, ⟨[10], [0, 6, 7]⟩)], plans := [(10, .take 0 (.take 1 (.take 2 (.take 3 (.take 4 (.take 5 (.take 6 (.take 7 (.take 8 (.take 9 (.take 10 (.take 11 (.take 12 (.take 13 (.take 14 (.take 15 (.take 16 (.fin 17 (.fin 18 (.fin 19 .done))))))))))))))))))))] }
/- slices.breakPatternsOrdered[int] -/
@[go_sem] def h109 : Rx.Hints := { loops := [(5, ⟨[9], [0, 1, 6, 7, 8]⟩)], plans := [(10, .take 0 (.take 1 (.take 2 (.take 3 (.take 4 (.take 5 (.take 6 (.take 7 (.take 8 (.take 9 (.take 10 (.take 11 (.take 12 (.take 13 (.take 14 (.take 15 (.take 16 (.fin 17 (.fin 18 (.fin 19 .done))))))))))))))))))))] }
/- slices.choosePivotOrdered[int] -/
@[go_sem] def h110 : Rx.Hints := {}
/- slices.reverseRangeOrdered[int] -/
@[go_sem] def h111 : Rx.Hints := { loops := [(2, ⟨[6, 7], [0]⟩)], plans := [(3, .take 0 (.take 1 (.take 2 (.take 3 (.take 4 (.take 5 (.take 6 (.take 7 (.take 8 (.take 9 (.take 10 (.take 11 (.take 12 (.fin 13 (.fin 14 (.fin 15 .done))))))))))))))))] }
/- slices.partialInsertionSortOrdered[int] -/
@[go_sem] def h112 : Rx.Hints := { loops := [(3, ⟨[7, 8], [0, 1, 2]⟩), (5, ⟨[7], [0, 1, 2, 8]⟩), (14, ⟨[9], [0, 1, 2, 7, 8]⟩), (20, ⟨[10], [0, 1, 2, 7, 8]⟩)], plans := [(5, .take 0 (.take 1 (.take 2 (.take 3 (.take 4 (.take 5 (.take 6 (.take 7 (.take 8 (.take 9 (.take 10 (.take 11 (.take 12 (.act 13 (.take 14 (.take 15 .done)))))))))))))))), (11, .take 0 (.take 1 (.take 2 (.take 3 (.take 4 (.take 5 (.take 6 (.take 7 (.take 8 (.take 9 (.take 10 (.take 11 (.take 12 (.take 13 (.take 14 (.fin 15 (.fin 16 (.fin 17 .done)))))))))))))))))), (16, .take 0 (.take 1 (.take 2 (.take 3 (.take 4 (.take 5 (.take 6 (.take 7 (.take 8 (.act 9 (.take 10 .done))))))))))), (17, .take 0 (.take 1 (.take 2 (.take 3 (.take 4 (.take 5 (.take 6 (.take 7 (.take 8 (.take 9 (.take 10 (.take 11 (.take 12 (.take 13 (.take 14 (.fin 15 (.fin 16 (.fin 17 .done)))))))))))))))))), (22, .take 0 (.take 1 (.take 2 (.take 3 (.take 4 (.take 5 (.take 6 (.take 7 (.take 8 (.act 9 (.take 10 .done))))))))))), (23, .take 0 (.take 1 (.take 2 (.take 3 (.take 4 (.take 5 (.take 6 (.take 7 (.take 8 (.take 9 (.take 10 (.take 11 (.take 12 (.take 13 (.take 14 (.fin 15 (.fin 16 (.fin 17 .done))))))))))))))))))] }
/- cmp.Less[int] -/
@[go_sem] def h113 : Rx.Hints := {}
/- slices.partitionEqualOrdered[int] -/
@[go_sem] def h114 : Rx.Hints := { loops := [(3, ⟨[9, 10], [0, 1]⟩), (5, ⟨[10], [0, 1, 9]⟩)], plans := [(1, .take 0 (.take 1 (.take 2 (.take 3 (.take 4 (.take 5 (.take 6 (.take 7 (.take 8 (.take 9 (.take 10 (.take 11 (.take 12 (.fin 13 (.fin 14 (.fin 15 .done)))))))))))))))), (3, .take 0 (.take 1 (.take 2 (.take 3 (.take 4 (.take 5 (.take 6 (.take 7 (.take 8 (.take 9 (.take 10 (.take 11 (.act 12 (.take 13 (.take 14 .done))))))))))))))), (5, .take 0 (.take 1 (.take 2 (.take 3 (.take 4 (.take 5 (.take 6 (.take 7 (.take 8 (.take 9 (.take 10 (.take 11 (.act 12 (.take 13 .done)))))))))))))), (8, .take 0 (.take 1 (.take 2 (.take 3 (.take 4 (.take 5 (.take 6 (.take 7 (.take 8 (.take 9 (.take 10 (.take 11 (.take 12 (.fin 13 (.fin 14 (.fin 15 .done))))))))))))))))] }
/- slices.partitionOrdered[int] -/
@[go_sem] def h115 : Rx.Hints := { loops := [(3, ⟨[10], [0, 1, 11]⟩), (5, ⟨[11], [0, 1, 10]⟩), (13, ⟨[10, 11], [0, 1]⟩), (15, ⟨[11], [0, 1, 10]⟩)], plans := [(1, .take 0 (.take 1 (.take 2 (.take 3 (.take 4 (.take 5 (.take 6 (.take 7 (.take 8 (.take 9 (.take 10 (.take 11 (.take 12 (.fin 13 (.fin 14 (.fin 15 .done)))))))))))))))), (3, .take 0 (.take 1 (.take 2 (.take 3 (.take 4 (.take 5 (.take 6 (.take 7 (.take 8 (.take 9 (.take 10 (.take 11 (.act 12 (.take 13 .done)))))))))))))), (5, .take 0 (.take 1 (.take 2 (.take 3 (.take 4 (.take 5 (.take 6 (.take 7 (.take 8 (.take 9 (.take 10 (.take 11 (.act 12 (.take 13 (.take 14 .done))))))))))))))), (8, .take 0 (.take 1 (.take 2 (.take 3 (.take 4 (.take 5 (.take 6 (.take 7 (.take 8 (.take 9 (.take 10 (.take 11 (.take 12 (.fin 13 (.fin 14 (.fin 15 .done)))))))))))))))), (10, .take 0 (.take 1 (.take 2 (.take 3 (.take 4 (.take 5 (.take 6 (.take 7 (.take 8 (.take 9 (.take 10 (.take 11 (.take 12 (.fin 13 (.fin 14 (.fin 15 .done)))))))))))))))), (13, .take 0 (.take 1 (.take 2 (.take 3 (.take 4 (.take 5 (.take 6 (.take 7 (.take 8 (.take 9 (.take 10 (.take 11 (.act 12 (.take 13 .done)))))))))))))), (15, .take 0 (.take 1 (.take 2 (.take 3 (.take 4 (.take 5 (.take 6 (.take 7 (.take 8 (.take 9 (.take 10 (.take 11 (.act 12 (.take 13 (.take 14 .done))))))))))))))), (18, .take 0 (.take 1 (.take 2 (.take 3 (.take 4 (.take 5 (.take 6 (.take 7 (.take 8 (.take 9 (.take 10 (.take 11 (.take 12 (.fin 13 (.fin 14 (.fin 15 .done)))))))))))))))), (21, .take 0 (.take 1 (.take 2 (.take 3 (.take 4 (.take 5 (.take 6 (.take 7 (.take 8 (.take 9 (.take 10 (.take 11 (.take 12 (.fin 13 (.fin 14 (.fin 15 .done))))))))))))))))] }
/- math/bits.Len32 -/
@[go_sem] def h116 : Rx.Hints := {}
/- math/bits.Len64 -/
@[go_sem] def h117 : Rx.Hints := {}
/- slices.Collect[int] -/
@[go_sem] def h118 : Rx.Hints := {}
/- maps.Keys[map[int]sump/api.Node,int,sump/api.Node]$1 -/
@[go_sem] def h119 : Rx.Hints := { loops := [(1, ⟨[], [0, 5]⟩)] }
/- slices.IndexFunc[[]sump/api.Entry,sump/api.Entry] -/
@[go_sem] def h120 : Rx.Hints := { loops := [(2, ⟨[8], [0, 1, 7]⟩)] }
/- sump/dirs.Put$1 -/
@[go_sem] def h121 : Rx.Hints := {}
/- slices.Insert[[]sump/api.Entry,sump/api.Entry] -/
@[go_sem] def h122 : Rx.Hints := { plans := [(11, .take 0 (.take 1 (.take 2 (.take 3 (.take 4 (.take 5 (.take 6 (.take 7 (.fin 8 .done))))))))), (15, .take 0 (.take 1 (.take 2 (.take 3 (.take 4 (.take 5 (.take 6 (.take 7 (.fin 8 .done)))))))))] }
/- slices.DeleteFunc[[]sump/api.Entry,sump/api.Entry] -/
@[go_sem] def h123 : Rx.Hints := { loops := [(5, ⟨[5, 6], [0, 1]⟩)] }
/- sump/dirs.Drop$1 -/
@[go_sem] def h124 : Rx.Hints := {}
/- sump/sumpref09.DropEntry -/
@[go_sem] def h125 : Rx.Hints := { loops := [(3, ⟨[6, 11], [0, 1, 9, 10]⟩)] }
/- strings.explode -/
@[go_sem] def h126 : Rx.Hints := { loops := [(6, ⟨[0, 7], [1, 6]⟩)] }
/- strings.Count -/
@[go_sem] def h127 : Rx.Hints := { loops := [(6, ⟨[0, 5], [1]⟩)] }
/- strings.Index -/
@[go_sem] def h128 : Rx.Hints := {}
/- slices.siftDownOrdered[int] -/
@[go_sem] def h129 : Rx.Hints := { loops := [(1, ⟨[8], [0, 2, 3]⟩)], plans := [(3, .take 0 (.take 1 (.take 2 (.take 3 (.take 4 (.take 5 (.take 6 (.take 7 (.take 8 (.take 9 (.take 10 (.take 11 (.take 12 (.take 13 (.take 14 (.take 15 (.take 16 (.take 17 (.act 18 (.take 19 .done)))))))))))))))))))), (5, .take 0 (.take 1 (.take 2 (.take 3 (.take 4 (.take 5 (.take 6 (.take 7 (.take 8 (.take 9 (.take 10 (.take 11 (.act 12 (.take 13 .done)))))))))))))), (6, .take 0 (.take 1 (.take 2 (.take 3 (.take 4 (.take 5 (.take 6 (.take 7 (.take 8 (.take 9 (.take 10 (.take 11 (.take 12 (.take 13 (.take 14 (.take 15 (.take 16 (.take 17 (.take 18 (.take 19 (.take 20 (.fin 21 (.fin 22 (.fin 23 .done))))))))))))))))))))))))] }
/- slices.nextPowerOfTwo -/
@[go_sem] def h130 : Rx.Hints := {}
/- (*slices.xorshift).Next -/
@[go_sem] def h131 : Rx.Hints := { plans := [(1, .take 0 (.take 1 (.take 2 (.take 3 (.take 4 (.take 5 (.take 6 (.take 7 (.take 8 (.fin 9 .done)))))))))), (2, .take 0 (.take 1 (.take 2 (.take 3 (.take 4 (.take 5 (.take 6 (.take 7 (.take 8 (.fin 9 .done)))))))))), (3, .take 0 (.take 1 (.take 2 (.take 3 (.take 4 (.take 5 (.take 6 (.take 7 (.take 8 (.fin 9 .done))))))))))] }
/- slices.medianAdjacentOrdered[int] -/
@[go_sem] def h132 : Rx.Hints := {}
/- slices.medianOrdered[int] -/
@[go_sem] def h133 : Rx.Hints := {}
/- cmp.isNaN[int] -/
@[go_sem] def h134 : Rx.Hints := {}
/- slices.AppendSeq[[]int,int] -/
@[go_sem] def h135 : Rx.Hints := {}
/- slices.rotateRight[sump/api.Entry] -/
@[go_sem] def h137 : Rx.Hints := {}
/- unicode/utf8.RuneCountInString -/
@[go_sem] def h138 : Rx.Hints := { loops := [(2, ⟨[2], [4]⟩)] }
/- unicode/utf8.DecodeRuneInString -/
@[go_sem] def h139 : Rx.Hints := {}
/- internal/stringslite.Index -/
@[go_sem] def h141 : Rx.Hints := { loops := [(15, ⟨[8, 10], [0, 1, 5, 6, 7, 9]⟩)] }
/- slices.order2Ordered[int] -/
@[go_sem] def h142 : Rx.Hints := { plans := [(1, .take 0 (.take 1 (.take 2 (.take 3 (.take 4 (.take 5 (.take 6 (.take 7 (.act 8 .done)))))))))] }
/- slices.rotateLeft[sump/api.Entry] -/
@[go_sem] def h143 : Rx.Hints := {}
/- unicode/utf8.decodeRuneInStringSlow -/
@[go_sem] def h144 : Rx.Hints := {}
/- internal/stringslite.IndexByte -/
@[go_sem] def h145 : Rx.Hints := {}
/- internal/bytealg.Cutover -/
@[go_sem] def h147 : Rx.Hints := {}
/- internal/bytealg.IndexRabinKarp[string] -/
@[go_sem] def h148 : Rx.Hints := { loops := [(5, ⟨[8, 9], [0, 1, 5, 6, 7]⟩), (11, ⟨[8, 10], [0, 1, 5, 6, 7]⟩)] }
/- slices.Reverse[[]sump/api.Entry,sump/api.Entry] -/
@[go_sem] def h149 : Rx.Hints := { loops := [(1, ⟨[2, 3], [0]⟩)], plans := [(3, .take 0 (.take 1 (.take 2 (.take 3 (.take 4 (.take 5 (.take 6 (.take 7 (.take 8 (.take 9 (.take 10 (.take 11 (.take 12 (.fin 13 (.fin 14 (.fin 15 .done))))))))))))))))] }
/- internal/bytealg.hashStr[string] -/
@[go_sem] def h151 : Rx.Hints := { loops := [(3, ⟨[4, 5], [0]⟩), (8, ⟨[6, 7, 8], [4]⟩)] }
/- gosem.cut.vars -/
@[go_sem] def h173 : Rx.Hints := {}
end Go.Proofs.YtdfjfagljngciaaGreatDoor
